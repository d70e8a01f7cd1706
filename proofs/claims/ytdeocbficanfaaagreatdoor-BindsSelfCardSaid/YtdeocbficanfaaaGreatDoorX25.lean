/-
  Go read by value: lemmas (part 25): D42, D43, D44, D45, D46, D47, D48.
-/
import Derived.Test.YtdeocbficanfaaaGreatDoorX21
import Derived.Test.YtdeocbficanfaaaGreatDoorX24
set_option linter.unusedVariables false
set_option linter.unusedSimpArgs false
set_option linter.unusedSectionVars false
namespace Go.Av
open Go.Proofs
variable {W0 : World}
set_option maxRecDepth 10000
set_option maxHeartbeats 4000000
theorem p197 {l : List Tok} {N : Int} (hl : TokOKs l) (A : PT W0 212 l N) (S : PT W0 198 l (N - 1)) : PT W0 197 l N := by
  intro own x H hx hx2 hN
  have hln := hl.1
  refine SF.pureLe (sf_start [4, 5, 6] 57 Tryz.func197 rfl rfl rfl (by decide) (by simp) ?_)
  repeat' first
    | refine aSq ?_ | refine aBl ?_
    | (refine rg 1 ?_; refine tk 2 ?_; refine fc en212 ?_; refine (A own _ _ (by omega) (by omega) (by omega)).mono ?_; rintro r H1 ⟨rfl, t1, y1, e1, rfl, hy1, hy1l, hn1, hc1, hd1⟩; refine tk 7 ?_; refine dn ?_)
    | refine ru ?_
    | fail
  refine awp_loop_inv (InvS l own x H1 57) (if e1 = 0 then 2 * ((l.length : Int) - y1).toNat + 1 else 2 * ((l.length : Int) - y1).toNat)
    ⟨t1, y1, e1, fun h => by rw [if_pos h], fun h => by rw [if_neg h], hy1, hy1l, hn1, hc1, hd1, rfl, rfl, only_cons (by simp) (only_cons (by simp) (only_cons (by simp) (only_cons (by simp) only_nil)))⟩ ?_
  clear hy1 hy1l hn1 hc1 hd1
  rintro q st ⟨t, z, e, hq, hq', hz, hz2, hn0, hc0, hd0, hs2⟩
  refine awp_sub hs2 ?_
  clear hs2 st
  repeat' first
    | refine aSq ?_ | refine aRt ?_ | refine aSk ?_ | refine aEx ?_ | refine aBl ?_ | refine tN ?_ | refine tR ?_
    | (refine rg 2 ?_; refine tk 2 ?_; (first | (refine te (fun hb => ?_) (fun hb => ?_) <;> (try simp at hb) <;> (try (first | have hlt := key_lt hb | skip)) <;> (try (exfalso; omega))) | (refine tk 1 ?_)); all_goals (refine tk 2 ?_; (first | (refine fg en138 ?_; refine SF.then (sfk (by omega)) ?_) | (refine tk 1 ?_)); (first | (refine te (fun hb => ?_) (fun hb => ?_) <;> (try simp at hb) <;> (try (first | have hlt := key_lt hb | skip)) <;> (try (exfalso; omega))) | (refine tk 1 ?_)); all_goals (refine tk 2 ?_; (first | (refine fg en138 ?_; refine SF.then (sfk (by omega)) ?_) | (refine tk 1 ?_)); refine tk 2 ?_; refine dn ?_)))
    | (refine rg 4 ?_; refine tk 2 ?_; refine fc en138 ?_; refine SF.then (sfk (by omega)) ?_; refine dn ?_)
    | (refine rg 6 ?_; refine tk 3 ?_; refine fc en198 ?_; refine (S own _ _ (by omega) (by omega) (by omega)).mono ?_; rintro r H2 ⟨rfl, t2, y2, e2, rfl, hy2, hy2l, hn2, hc2, hd2⟩; refine tk 7 ?_; refine dn ?_)
    | refine ru ?_
    | (refine awp_if rfl (fun hb => ?_) (fun hb => ?_) <;> (try simp at hb) <;> (try (first | have hlt := key_lt hb | skip)) <;> (try (exfalso; omega)))
    | refine inN ?_
  all_goals first
    | (simp [retQ]; first | exact ⟨_, .refl _, resT t _ _ hz hz2 hn0 (by omega) (by omega)⟩ | exact ⟨_, .refl _, resN (by omega) (by omega) (by omega)⟩)
    | exact invS_step (y := y2) (e' := e2) (.node 43 1 [] [] [t, t2]) hq (by assumption) (by omega) (by omega) (by omega) (by omega) (neat2 hn0 hn2) (by simp only [Tr.cnt, Tr.cnts]; omega) (by simp only [Tr.cnt, Tr.cnts]; omega) ⟨rfl, rfl, only_cons (by simp) (only_cons (by simp) (only_cons (.ptr (.cons (.refl _) (.cons (.refl _) (.cons (.refl _) (.cons (.refl _) (.cons (.shut _ _ _) .nil)))))) (only_cons (by simp) only_nil)))⟩
    | exact invS_step (y := y2) (e' := e2) (.node 43 0 [] [] [t, t2]) hq (by assumption) (by omega) (by omega) (by omega) (by omega) (neat2 hn0 hn2) (by simp only [Tr.cnt, Tr.cnts]; omega) (by simp only [Tr.cnt, Tr.cnts]; omega) ⟨rfl, rfl, only_cons (by simp) (only_cons (by simp) (only_cons (.ptr (.cons (.refl _) (.cons (.refl _) (.cons (.refl _) (.cons (.refl _) (.cons (.shut _ _ _) .nil)))))) (only_cons (by simp) only_nil)))⟩
def InvG (l : List Tok) (own : Own) (x : Int) (H : Hp) (n : Nat) (q : Nat) (st : St) : Prop := ∃ (t : Tr) (z e : Int) (Hc : Hp), (e = 0 → q = 2 * ((l.length : Int) - z).toNat + 1) ∧ (e ≠ 0 → q = 2 * ((l.length : Int) - z).toNat) ∧ x ≤ z ∧ z ≤ l.length ∧ t.neat ∧ (t.cnt : Int) ≤ 2 * (z - x) ∧ (e = 0 → (t.cnt : Int) + 1 ≤ 2 * (z - x)) ∧ Gr H Hc ∧
  Sub st ⟨n, [(0, .sl 4 (toks l) own), (1, .int .i64 z), (7, t.av), (8, .int .i64 e)], Hc⟩
theorem invG_step {l : List Tok} {own : Own} {x : Int} {H Hc : Hp} {n q : Nat} {e y e' : Int} (t : Tr) {z : Int} {st : St}
    (hq : e = 0 → q = 2 * ((l.length : Int) - z).toNat + 1) (he : e = 0) (h1 : z ≤ y) (h1' : e' = 0 → z < y) (h2 : x ≤ y) (h3 : y ≤ l.length) (h4 : t.neat) (h5 : (t.cnt : Int) ≤ 2 * (y - x)) (h6 : e' = 0 → (t.cnt : Int) + 1 ≤ 2 * (y - x)) (hg : Gr H Hc)
    (hs : Sub st ⟨n, [(0, .sl 4 (toks l) own), (1, .int .i64 y), (7, t.av), (8, .int .i64 e')], Hc⟩) : ∃ j, j < q ∧ InvG l own x H n j st := by
  have hq := hq he
  rcases Int.decEq e' 0 with hn | hp
  · exact ⟨2 * ((l.length : Int) - y).toNat, by omega, t, y, e', Hc, fun h => absurd h hn, fun _ => rfl, h2, h3, h4, h5, h6, hg, hs⟩
  · have := h1' hp
    exact ⟨2 * ((l.length : Int) - y).toNat + 1, by omega, t, y, e', Hc, fun _ => rfl, fun h => absurd hp h, h2, h3, h4, h5, h6, hg, hs⟩
theorem p198 {l : List Tok} {N : Int} (hl : TokOKs l) (A : PT W0 213 l N) (P : PP W0 l (N - 1)) : PT W0 198 l N := by
  intro own x H hx hx2 hN
  have hln := hl.1
  refine SF.pureLe (sf_start [4, 5, 6] 43 Tryz.func198 rfl rfl rfl (by decide) (by simp) ?_)
  repeat' first
    | refine aSq ?_ | refine aBl ?_
    | (refine rg 1 ?_; refine tk 2 ?_; refine fc en213 ?_; refine (A own _ _ (by omega) (by omega) (by omega)).mono ?_; rintro r H1 ⟨rfl, t1, y1, e1, rfl, hy1, hy1l, hn1, hc1, hd1⟩; refine tk 7 ?_; refine dn ?_)
    | refine ru ?_
    | fail
  refine awp_loop_inv (InvG l own x H1 43) (if e1 = 0 then 2 * ((l.length : Int) - y1).toNat + 1 else 2 * ((l.length : Int) - y1).toNat)
    ⟨t1, y1, e1, H1, fun h => by rw [if_pos h], fun h => by rw [if_neg h], hy1, hy1l, hn1, hc1, hd1, Gr.refl _, rfl, rfl, only_cons (by simp) (only_cons (by simp) (only_cons (by simp) (only_cons (by simp) only_nil)))⟩ ?_
  clear hy1 hy1l hn1 hc1 hd1
  rintro q st ⟨t, z, e, Hc, hq, hq', hz, hz2, hn0, hc0, hd0, hg, hs2⟩
  refine awp_sub hs2 ?_
  clear hs2 st
  have hgl : H1.objs.length ≤ Hc.objs.length := hg.objlen
  repeat' first
    | refine aSq ?_ | refine aRt ?_ | refine aSk ?_ | refine aEx ?_ | refine aBl ?_ | refine tN ?_ | refine tR ?_
    | (refine rg 2 ?_; refine aops_take 2 (mu := mu1) tab_ok (by simp (disch := omega); with_reducible rfl) ?_; (first | (refine aops_test (mu := mu1) tab_ok (by simp (disch := omega); with_reducible rfl) rfl (fun hb => ?_) (fun hb => ?_) <;> (try simp at hb) <;> (try (first | have hlt := key_lt hb | skip)) <;> (try (exfalso; omega))) | (refine aops_take 1 (mu := mu1) tab_ok (by simp (disch := omega); with_reducible rfl) ?_)); all_goals (refine aops_take 2 (mu := mu1) tab_ok (by simp (disch := omega); with_reducible rfl) ?_; (first | (refine fg en138 ?_; refine SF.then (sfk (by omega)) ?_) | (refine aops_take 1 (mu := mu1) tab_ok (by simp (disch := omega); with_reducible rfl) ?_)); refine aops_take 1 (mu := mu1) tab_ok (by simp (disch := omega); with_reducible rfl) ?_; refine dn ?_))
    | (refine rg 4 ?_; refine aops_take 4 (mu := mu1) tab_ok (by simp (disch := omega); with_reducible rfl) ?_; refine fc en140 ?_; refine (P own (z + 1) [84, 108, 61, 116] H1 ⟨Hc.objs ++ [.cells [.int .i64 52, .int .i64 0, .str [], .str [], .sl 1 [[t.av]] .capped]], Hc.hi⟩ Hc.objs.length 52 0 [] [] [t] (.sl 1 [[t.av]] .capped) (by omega) (by omega) (by omega) (by simp) (by simp) (by simp) (by simp; omega) ⟨hn0, trivial⟩ (hg.obj _) hgl (by simp) (App.capped _ _ _ _)).mono ?_; rintro r H2 ⟨y2, e2, a2, b2, ts2, v2, rfl, hy2, hy2l, ha2, hb2, hn2, hk2, hc2, ho2, hg2, ap2⟩; refine aops_take 5 (mu := mu1) tab_ok (by simp (disch := omega); with_reducible rfl) ?_; refine dn ?_)
    | ((have hob2 : H2.objs[Hc.objs.length]? = some (.cells [.int .i64 52, .int .i64 0, .str a2, .str b2, v2]) := by rw [ho2]; simp); refine awp_only [(0, .sl 4 (toks l) own), (1, .int .i64 y2), (8, .int .i64 e2), (9, .ref Hc.objs.length 0)] (only_cons (by simp) (only_cons (by simp) (only_cons (by simp) (only_cons (by simp) only_nil)))) ?_; refine awp_freeze Hc.objs.length [(0, .sl 4 (toks l) own), (1, .int .i64 y2), (8, .int .i64 e2), (9, .ptr [.int .i64 52, .int .i64 0, .str a2, .str b2, v2])] hob2 (.cons (.same _) (.cons (.same _) (.cons (.same _) (.cons (.ptr _ 0 rfl) .nil)))) ?_; refine rg 5 ?_; refine aops_take 2 (mu := mu0) tab_ok (by simp; rfl) ?_; refine dn ?_)
    | (refine awp_run (mu := mu1) tab_ok (by simp (disch := omega); with_reducible rfl) ?_)
    | (refine awp_if rfl (fun hb => ?_) (fun hb => ?_) <;> (try simp at hb) <;> (try (first | have hlt := key_lt hb | skip)) <;> (try (exfalso; omega)))
    | refine inN ?_
  all_goals first
    | exact ⟨hg, by simp [retQ]; first | exact ⟨_, .refl _, resT t _ _ hz hz2 hn0 (by omega) (by omega)⟩ | exact ⟨_, .refl _, resN (by omega) (by omega) (by omega)⟩⟩
    | exact invG_step (y := y2) (e' := e2) (.node 52 0 a2 b2 ts2) hq (by assumption) (by omega) (by omega) (by omega) (by omega) ⟨ha2, hb2, by simp at hk2; omega, hn2⟩ (by simp only [Tr.cnt]; simp only [Tr.cnts] at hc2; omega) (by simp only [Tr.cnt]; simp only [Tr.cnts] at hc2; omega) (hg2.set hgl _) ⟨rfl, rfl, only_cons (by simp) (only_cons (by simp) (only_cons (.ptr (.cons (.refl _) (.cons (.refl _) (.cons (.refl _) (.cons (.refl _) (.cons ap2.le .nil)))))) (only_cons (by simp) only_nil)))⟩
theorem p_mods {l : List Tok} (hl : TokOKs l) : ∀ (N : Nat), PP W0 l (N - 1) ∧ PT W0 197 l (N - 1) ∧ PT W0 198 l (N - 1)
  | 0 => by
    refine ⟨?_, ?_, ?_⟩
    · intro own x f H0 H r k n a b ts v h1 h2 h3
      simp at h3
      omega
    all_goals
      (intro own x H h1 h2 h3
       simp at h3
       omega)
  | N + 1 => by
    have ih := p_mods hl N
    have e : ((N + 1 : Nat) : Int) - 1 = N := by omega
    rw [e]
    have S := p198 hl (p213 hl ih.1) ih.1
    have M := p197 hl (p212 hl ih.1 ih.2.1) ih.2.2
    exact ⟨p140 hl M S, M, S⟩
theorem p31 {l : List Tok} (hl : TokOKs l) {own : Own} {x : Int} {b : Bool} {H : Hp} (hx : 0 ≤ x) (hx2 : x ≤ l.length) :
    SF Tryz.prog W0 31 [.sl 4 (toks l) own, .int .i64 x, .bool b] H fun r H' => H' = H ∧ ResL l x r := by
  have hln := hl.1
  refine SF.pureLe (sf_start [6, 7, 8] 25 Tryz.func31 rfl rfl rfl (by decide) (by simp) ?_)
  have P := (p_mods (W0 := W0) hl (l.length + 1)).1
  repeat' first
    | refine aSq ?_ | refine aRt ?_ | refine aSk ?_ | refine tN ?_
    | (refine rg 1 ?_; refine tk 2 ?_; (first | (refine te (fun hb => ?_) (fun hb => ?_) <;> (try simp at hb) <;> try (exfalso; omega)) | (refine tk 1 ?_)); all_goals (refine tk 5 ?_; refine dn ?_))
    | (refine rg 3 ?_; refine tk 2 ?_; refine fc en57 ?_; refine SF.then sf57 ?_; refine tk 1 ?_; refine fc en56 ?_; refine (p56 (N := l.length + 1) hl (by simpa using P) declR_ok (by omega) (by omega) (by omega)).mono ?_; rintro r H1 ⟨rfl, ts, y1, e1, rfl, hy1, hy1l, hn1, hk1, hc1⟩; refine tk 6 ?_; refine dn ?_)
    | refine ru ?_
    | (refine awp_if rfl (fun hb => ?_) (fun hb => ?_) <;> (try simp at hb) <;> try (exfalso; omega))
    | fail
  exact ⟨Gr.refl _, _, by simp, ts, y1, e1, rfl, hy1, hy1l, hn1, hk1, hc1⟩
end Go.Av
namespace Go.Av
open Go.Proofs
open Go.Lib (decodeL decodeL_width decodeL_le validD validD_step validD_nil)
variable {W0 : World}
set_option maxRecDepth 10000
set_option maxHeartbeats 4000000
theorem enc_len (n : Int) : (Utf8.encode n).data.toList.length ≤ 4 := by
  unfold Utf8.encode
  generalize (if Utf8.valid n then n.toNat else Utf8.runeError) = c
  simp only
  (repeat' split) <;> simp
theorem sf50 {s : Str} {H : Hp} (hs : s.length ≤ 67108864) : SF Tryz.prog W0 50 [.str s] H fun r H' => H' = H ∧ ∃ p e : Int, r = .tuple [.int .i64 p, .int .i64 e] ∧ (e = 0 → s.length ≤ 16384) := by
  refine SF.pureLe (sf_start [2, 3] 46 Tryz.func50 rfl rfl rfl (by decide) (by simp) ?_)
  repeat' first
    | refine aSq ?_ | refine aRt ?_ | refine aSk ?_ | refine aBl ?_ | refine tN ?_ | refine tR ?_
    | refine ru ?_
    | (refine awp_if rfl (fun hb => ?_) (fun hb => ?_) <;> (try simp at hb) <;> try (exfalso; omega))
    | fail
  · simp [retQ]
    exact ⟨_, .refl _, _, _, rfl, by omega⟩
  refine awp_loop_inv (fun q st => ∃ i : Nat, q = s.length - i ∧ i ≤ s.length ∧ Sub st ⟨46, [(0, .str s), (4, .int .i64 i)], H⟩) s.length ⟨0, by simp, by simp, rfl, rfl, only_cons (by simp) (only_cons (by simp) only_nil)⟩ ?_
  rintro q st ⟨i, rfl, hi, hs2⟩
  refine awp_sub hs2 ?_
  clear hs2 st
  obtain ⟨p, n, hpn⟩ : ∃ p n, nextR (s.drop i) = (p, n) := ⟨_, _, rfl⟩
  have hw : i < s.length → n ≠ 0 → i + n ≤ s.length := by
    intro hlt hn
    have hne : s.drop i ≠ [] := by intro h; have := congrArg List.length h; simp at this; omega
    have hle := decodeL_le (s.drop i) hne
    rw [List.length_drop] at hle
    unfold nextR at hpn
    split at hpn
    · cases hpn; exact absurd rfl hn
    · rw [hpn] at hle; simp at hle; omega
  repeat' first
    | refine aSq ?_ | refine aRt ?_ | refine aSk ?_ | refine aEx ?_ | refine aBl ?_ | refine tN ?_ | refine tR ?_ | refine iR ?_
    | (refine rg 5 ?_; refine tk 2 ?_; refine fc en95 ?_; refine SF.then (sf95 (by omega) hs) ?_; simp only [hpn]; refine tk 5 ?_; refine dn ?_)
    | (refine rg 6 ?_; refine tk 2 ?_; (first | (refine te (fun hb => ?_) (fun hb => ?_) <;> (try simp at hb) <;> try (exfalso; omega)) | (refine tk 1 ?_)); all_goals (refine tk 3 ?_; (first | (refine te (fun hb => ?_) (fun hb => ?_) <;> (try simp at hb) <;> try (exfalso; omega)) | (refine tk 1 ?_)); all_goals (refine tk 2 ?_; (first | (refine te (fun hb => ?_) (fun hb => ?_) <;> (try simp at hb) <;> try (exfalso; omega)) | (refine tk 1 ?_)); all_goals (refine tk 3 ?_; (first | (refine te (fun hb => ?_) (fun hb => ?_) <;> (try simp at hb) <;> try (exfalso; omega)) | (refine tk 1 ?_)); all_goals (refine tk 4 ?_; (first | (refine te (fun hb => ?_) (fun hb => ?_) <;> (try simp at hb) <;> try (exfalso; omega)) | (refine tk 1 ?_)); all_goals (refine tk 3 ?_; refine dn ?_))))))
    | refine ru ?_
    | (refine awp_if rfl (fun hb => ?_) (fun hb => ?_) <;> (try simp at hb) <;> try (exfalso; omega))
    | refine inN ?_
  all_goals first
    | (simp [retQ]; first | exact ⟨_, .refl _, _, _, rfl, by omega⟩ | exact ⟨Gr.refl _, _, .refl _, _, _, rfl, by omega⟩)
    | (have := hw (by assumption) (by assumption)
       exact ⟨s.length - (i + n), by omega, i + n, rfl, by omega, rfl, rfl, only_cons (by simp) (only_cons (by simp (disch := omega)) only_nil)⟩)
    | skip
def runesOK (l : List Nat) : Prop := l.length ≤ 20000
theorem sf52 {l : List Nat} {own : Own} {a b : Nat} {H : Hp} (hl : runesOK l) (hb : b ≤ l.length) : SF Tryz.prog W0 52 [.sl 1 (rns l) own, .int .i64 a, .int .i64 b] H fun r H' => H' = H ∧ ∃ s : Str, r = .str s ∧ s.length ≤ 4 * (b - a) := by
  unfold runesOK at hl
  refine SF.pureLe (sf_start [6] 24 Tryz.func52 rfl rfl rfl (by decide) (by simp) ?_)
  repeat' first
    | refine aSq ?_ | refine aBl ?_
    | refine ru ?_
    | fail
  refine awp_loop_inv (fun q st => ∃ (i : Nat) (s : Str), q = b - i ∧ a ≤ i ∧ (i ≤ b ∨ i = a) ∧ s.length ≤ 4 * (i - a) ∧ Sub st ⟨24, [(0, .sl 1 (rns l) own), (2, .int .i64 b), (7, .str s), (8, .int .i64 i)], H⟩) (b - a) ⟨a, [], rfl, by omega, by omega, by simp, rfl, rfl, only_cons (by simp) (only_cons (by simp) (only_cons (by simp) (only_cons (by simp) only_nil)))⟩ ?_
  rintro q st ⟨i, s, rfl, hi, hi2, hsl, hs2⟩
  refine awp_sub hs2 ?_
  clear hs2 st
  rcases Nat.lt_or_ge i b with hlt | hge
  · obtain ⟨j, hj⟩ : ∃ j : Nat, (i : Int) + 1 = j := ⟨i + 1, rfl⟩
    have h1 : i ≤ j := by omega
    have h2 : j ≤ l.length := by omega
    have hn : nums .i32 (((rns l).take j).drop i) = some [(l[i]'(by omega) : Int)] := by
      have : j = i + 1 := by omega
      subst this
      rw [List.drop_take, List.drop_eq_getElem_cons (by simp; omega)]
      simp [nums]
    have hel := enc_len (l[i]'(by omega) : Int)
    have hes : (Utf8.encode (l[i]'(by omega) : Int)).size ≤ 4 := by simpa using hel
    have hz : List.length s + (Utf8.encode (l[i]'(by omega) : Int)).size ≤ 1099511627776 := by omega
    repeat' first
      | refine aSq ?_ | refine aSk ?_ | refine aBl ?_ | refine tN ?_
      | (refine rg 5 ?_; refine aops_take 6 (mu := mu0) tab_ok (by simp (disch := omega) [hj, h1, h2]; rfl) ?_; refine tk 1 ?_ (by simp (disch := omega) [convA, hn]; with_reducible rfl); refine tk 2 ?_ (by simp [hz]; with_reducible rfl); refine dn ?_)
      | refine ru ?_
      | (refine awp_if rfl (fun hb => ?_) (fun hb => ?_) <;> (try simp at hb) <;> try (exfalso; omega))
      | fail
    exact ⟨b - (i + 1), by omega, i + 1, s ++ (Utf8.encode (l[i]'(by omega) : Int)).data.toList, rfl, by omega, by omega, by simp only [List.length_append]; omega, rfl, rfl, only_cons (by simp) (only_cons (by simp) (only_cons (by simp) (only_cons (by simp [hj]) only_nil)))⟩
  · repeat' first
      | refine aSq ?_ | refine aRt ?_ | refine aEx ?_ | refine tN ?_
      | refine ru ?_
      | (refine awp_if rfl (fun hb => ?_) (fun hb => ?_) <;> (try simp at hb) <;> try (exfalso; omega))
      | fail
    exact ⟨Gr.refl _, _, .refl _, s, rfl, by omega⟩
theorem sf136 {r : Int} {H : Hp} : SF Tryz.prog W0 136 [.int .i32 r] H fun x H' => H' = H ∧ x = .bool (cls r == 1 || cls r == 2 || r == 39) := by
  refine SF.pureLe (sf_start [2] 16 Tryz.func136 rfl rfl rfl (by decide) (by simp) ?_)
  repeat' first
    | refine aSq ?_ | refine aRt ?_
    | (refine rg 1 ?_; refine tk 1 ?_; refine fc en53 ?_; refine SF.then sf53 ?_; refine tk 1 ?_; refine dn ?_)
    | (refine rg 2 ?_; refine tk 2 ?_; (first | (refine te (fun hb => ?_) (fun hb => ?_) <;> (try simp at hb) <;> try (exfalso; omega)) | (refine tk 1 ?_)); all_goals (refine tk 3 ?_; (first | (refine te (fun hb => ?_) (fun hb => ?_) <;> (try simp at hb) <;> try (exfalso; omega)) | (refine tk 1 ?_)); all_goals (refine tk 4 ?_; refine dn ?_)))
    | refine ru ?_
    | fail
  all_goals (refine ⟨Gr.refl _, _, .refl _, ?_⟩; simp [look, *])
theorem sf98 {H : Hp} : SF Tryz.prog W0 98 [] H fun r H' => H' = H ∧ ∃ x : List Str, r = .sl 1 (strs x) .shut ∧ x.length ≤ 20 ∧ ∀ s ∈ x, s.length ≤ 2 := by
  refine SF.pureLe (sf_start [0] 2 Tryz.func98 rfl rfl rfl (by decide) (by simp) ?_)
  repeat' first
    | refine aSq ?_ | refine aRt ?_
    | refine ru ?_
    | fail
  exact ⟨Gr.refl _, _, by simp; exact .shut _ _ _, [[40], [41], [123], [125], [44], [58], [58, 62], [61], [61, 62], [45, 62], [42], [43], [45], [60], [124], [35, 49], [35, 50]], rfl, by decide, by decide⟩
end Go.Av
namespace Go.Av
open Go.Proofs
variable {W0 : World}
set_option maxRecDepth 10000
set_option maxHeartbeats 4000000
theorem sf133 {l : List Nat} {own : Own} {i : Nat} {H : Hp} (hl : runesOK l) (hi : i ≤ l.length) : SF Tryz.prog W0 133 [.sl 1 (rns l) own, .int .i64 i] H fun r H' => H' = H ∧ ∃ n : Nat, r = .int .i64 n ∧ i + n ≤ l.length ∧ (∀ h : i < l.length, cls l[i] = 1 → 1 ≤ n) := by
  unfold runesOK at hl
  refine SF.pureLe (sf_start [4] 24 Tryz.func133 rfl rfl rfl (by decide) (by simp) ?_)
  repeat' first
    | refine aSq ?_ | refine aBl ?_
    | refine ru ?_
    | fail
  refine awp_loop_inv (fun q st => ∃ n : Nat, q = l.length - (i + n) ∧ i + n ≤ l.length ∧ Sub st ⟨24, [(0, .sl 1 (rns l) own), (1, .int .i64 i), (5, .int .i64 n)], H⟩) (l.length - i) ⟨0, by simp, by omega, rfl, rfl, only_cons (by simp) (only_cons (by simp) (only_cons (by simp) only_nil))⟩ ?_
  rintro q st ⟨n, rfl, hn, hs2⟩
  refine awp_sub hs2 ?_
  clear hs2 st
  obtain ⟨j, hj⟩ : ∃ j : Nat, (i : Int) + n = j := ⟨i + n, rfl⟩
  have hjn : j = i + n := by omega
  repeat' first
    | refine aSq ?_ | refine aRt ?_ | refine aSk ?_ | refine aEx ?_ | refine aBl ?_ | refine tN ?_
    | (refine rg 2 ?_; refine tk 6 ?_ (by simp (disch := omega) [hj]; with_reducible rfl); (first | (refine te (hs := (by simp (disch := omega) [hj]; with_reducible rfl)) (fun hb => ?_) (fun hb => ?_) <;> (try simp at hb) <;> try (exfalso; omega)) | (refine tk 1 ?_ (by simp (disch := omega) [hj]; with_reducible rfl))); all_goals (refine tk 6 ?_ (by simp (disch := omega) [hj]; with_reducible rfl); (first | (refine fg en136 ?_; refine SF.then sf136 ?_) | (refine tk 1 ?_ (by simp (disch := omega) [hj]; with_reducible rfl))); refine tk 1 ?_ (by simp (disch := omega) [hj]; with_reducible rfl); refine dn ?_))
    | (refine ru ?_ (by simp (disch := omega) [hj]; with_reducible rfl))
    | (refine awp_if rfl (fun hb => ?_) (fun hb => ?_) <;> (try simp at hb) <;> try (exfalso; omega))
    | refine inN ?_
  · exact ⟨l.length - (i + (n + 1)), by omega, n + 1, rfl, by omega, rfl, rfl, only_cons (by simp) (only_cons (by simp) (only_cons (by simp (disch := omega)) only_nil))⟩
  · refine ⟨Gr.refl _, _, .refl _, n, rfl, hn, fun h hc => ?_⟩
    rcases Nat.eq_zero_or_pos n with rfl | hp
    · have : j = i := by omega
      subst this
      exact absurd hc hb.1.1
    · exact hp
  · exact ⟨Gr.refl _, _, .refl _, n, rfl, hn, fun h hc => by omega⟩
theorem sf54 {l : List Nat} {own : Own} {i : Nat} {H : Hp} (hl : runesOK l) (hi : i ≤ l.length) : SF Tryz.prog W0 54 [.sl 1 (rns l) own, .int .i64 i] H fun r H' => H' = H ∧ ∃ n : Nat, r = .int .i64 n ∧ (n = 0 ∨ (i < n ∧ n ≤ l.length)) := by
  unfold runesOK at hl
  refine SF.pureLe (sf_start [4] 50 Tryz.func54 rfl rfl rfl (by decide) (by simp) ?_)
  repeat' first
    | refine aSq ?_ | refine aBl ?_
    | refine ru ?_
    | fail
  refine awp_loop_inv (fun q st => ∃ (k : Nat) (d : Int), q = l.length - k ∧ i ≤ k ∧ k ≤ l.length ∧ -(k : Int) ≤ d ∧ d ≤ k ∧ Sub st ⟨50, [(0, .sl 1 (rns l) own), (1, .int .i64 k), (5, .int .i64 d)], H⟩) (l.length - i) ⟨i, 0, rfl, by omega, by omega, by omega, by omega, rfl, rfl, only_cons (by simp) (only_cons (by simp) (only_cons (by simp) only_nil))⟩ ?_
  rintro q st ⟨k, d, rfl, hk, hk2, hd1, hd2, hs2⟩
  refine awp_sub hs2 ?_
  clear hs2 st
  obtain ⟨j, hj⟩ : ∃ j : Nat, (k : Int) + 1 = j := ⟨k + 1, rfl⟩
  have hjn : j = k + 1 := by omega
  repeat' first
    | refine aSq ?_ | refine aRt ?_ | refine aSk ?_ | refine aEx ?_ | refine aBl ?_ | refine tN ?_ | refine tR ?_ | refine iR ?_
    | (refine rg 3 ?_; refine tk 5 ?_ (by simp (disch := omega) [hj]; with_reducible rfl); (first | (refine te (hs := (by simp (disch := omega) [hj]; with_reducible rfl)) (fun hb => ?_) (fun hb => ?_) <;> (try simp at hb) <;> try (exfalso; omega)) | (refine tk 1 ?_ (by simp (disch := omega) [hj]; with_reducible rfl))); all_goals (refine tk 7 ?_ (by simp (disch := omega) [hj]; with_reducible rfl); refine dn ?_))
    | (refine rg 6 ?_; refine tk 5 ?_ (by simp (disch := omega) [hj]; with_reducible rfl); (first | (refine te (hs := (by simp (disch := omega) [hj]; with_reducible rfl)) (fun hb => ?_) (fun hb => ?_) <;> (try simp at hb) <;> try (exfalso; omega)) | (refine tk 1 ?_ (by simp (disch := omega) [hj]; with_reducible rfl))); all_goals (refine tk 7 ?_ (by simp (disch := omega) [hj]; with_reducible rfl); refine dn ?_))
    | (refine ru ?_ (by simp (disch := omega) [hj]; with_reducible rfl))
    | (refine awp_if rfl (fun hb => ?_) (fun hb => ?_) <;> (try simp at hb) <;> try (exfalso; omega))
    | refine inN ?_
  all_goals first
    | exact ⟨l.length - (k + 2), by omega, k + 2, d + 1, rfl, by omega, by omega, by omega, by omega, rfl, rfl, only_cons (by simp) (only_cons (.of_eq (by simp <;> omega)) (only_cons (.refl _) only_nil))⟩
    | exact ⟨l.length - (k + 2), by omega, k + 2, d - 1, rfl, by omega, by omega, by omega, by omega, rfl, rfl, only_cons (by simp) (only_cons (.of_eq (by simp <;> omega)) (only_cons (.refl _) only_nil))⟩
    | exact ⟨l.length - (k + 1), by omega, k + 1, d, rfl, by omega, by omega, by omega, by omega, rfl, rfl, only_cons (by simp) (only_cons (.of_eq (by simp <;> omega)) (only_cons (.refl _) only_nil))⟩
    | exact ⟨Gr.refl _, .int .i64 0, .refl _, 0, rfl, .inl rfl⟩
    | exact ⟨Gr.refl _, .int .i64 (k + 2 : Nat), .of_eq (by simp), k + 2, rfl, .inr ⟨by omega, by omega⟩⟩
theorem conj_if {α : Type} {n m : Nat} {k l : Int} (h1 : n ≤ m) (h2 : k ≤ l) (a b : α) : (if n ≤ m ∧ k ≤ l then a else b) = a := if_pos ⟨h1, h2⟩
theorem sf137 : ∀ (N : Nat) (x : Int) (H : Hp), N ≤ 100 → -10 ^ N < x → x < 10 ^ N → -1099511627776 ≤ x → x ≤ 1099511627776 → SF Tryz.prog W0 137 [.int .i64 x] H fun r H' => H' = H ∧ ∃ s : Str, r = .str s ∧ s.length ≤ N + 2 := by
  intro N
  induction N with
  | zero =>
    intro x H _ h1 h2 _ _
    have : x = 0 := by omega
    subst this
    refine SF.pureLe (sf_start [2] 44 Tryz.func137 rfl rfl rfl (by decide) (by simp) ?_)
    repeat' first
      | refine aSq ?_ | refine aRt ?_ | refine aSk ?_ | refine tN ?_ | refine tR ?_
      | (refine rg 1 ?_; refine tk 2 ?_; (first | (refine te (fun hb => ?_) (fun hb => ?_) <;> (try simp at hb) <;> try (exfalso; omega)) | (refine tk 1 ?_)); all_goals (refine tk 3 ?_; refine dn ?_))
      | refine ru ?_
      | (refine awp_if rfl (fun hb => ?_) (fun hb => ?_) <;> (try simp at hb) <;> try (exfalso; omega))
      | fail
    exact ⟨Gr.refl _, _, .refl _, _, rfl, by simp⟩
  | succ N ih =>
    intro x H hN h1 h2 h3 h4
    rw [Int.pow_succ] at h1 h2
    refine SF.pureLe (sf_start [2] 44 Tryz.func137 rfl rfl rfl (by decide) (by simp) ?_)
    rcases (by omega : x < 0 ∨ 0 ≤ x) with hn | hp
    · obtain ⟨m, rfl⟩ : ∃ m : Nat, x = -(m : Int) := ⟨(-x).toNat, by omega⟩
      obtain ⟨m1, hm1⟩ : ∃ m1 : Nat, (1 : Int) + m = m1 := ⟨1 + m, rfl⟩
      have hq : Int.tdiv (-(m : Int)) 10 = -((m / 10 : Nat) : Int) := by rw [Int.neg_tdiv]; rfl
      have hr : Int.tmod (-(m : Int)) 10 = -((m % 10 : Nat) : Int) := by rw [Int.neg_tmod]; rfl
      obtain ⟨q, hqm⟩ : ∃ q : Nat, m / 10 = q := ⟨_, rfl⟩
      obtain ⟨r, hrm⟩ : ∃ r : Nat, m % 10 = r := ⟨_, rfl⟩
      rw [hqm] at hq
      rw [hrm] at hr
      obtain ⟨r1, hr1⟩ : ∃ r1 : Nat, (1 : Int) + r = r1 := ⟨1 + r, rfl⟩
      repeat' first
        | refine aSq ?_ | refine aRt ?_ | refine aSk ?_ | refine tN ?_ | refine tR ?_
        | (refine rg 1 ?_; refine tk 2 ?_ (by simp (disch := omega) [hm1, hq, hr, hr1, conj_if, small_if]; with_reducible rfl); (first | (refine te (hs := (by simp (disch := omega) [hm1, hq, hr, hr1, conj_if, small_if]; with_reducible rfl)) (fun hb => ?_) (fun hb => ?_) <;> (try simp at hb) <;> try (exfalso; omega)) | (refine tk 1 ?_ (by simp (disch := omega) [hm1, hq, hr, hr1, conj_if, small_if]; with_reducible rfl))); all_goals (refine tk 3 ?_ (by simp (disch := omega) [hm1, hq, hr, hr1, conj_if, small_if]; with_reducible rfl); refine dn ?_))
        | (refine dr 4 [(0, true), (1, true), (3, true), (4, true), (5, true), (6, true), (7, true), (8, true), (9, true), (2, false), (10, true), (11, true)] [] ?_; refine da 9 (fun _ => ?_) (h := (by simp (disch := omega) [hm1, hq, hr, hr1, conj_if, small_if]; with_reducible rfl)); refine df en137 ?_; refine (ih _ _ (by omega) (by omega) (by omega) (by omega) (by omega)).mono ?_; rintro x1 H1 ⟨rfl, s1, rfl, hs1⟩; refine ⟨.inr rfl, ?_⟩; refine dl ?_ (h := (by simp (disch := omega) [hm1, hq, hr, hr1, conj_if, small_if]; with_reducible rfl)))
        | (refine ru ?_ (by simp (disch := omega) [hm1, hq, hr, hr1, conj_if, small_if]; with_reducible rfl))
        | (refine awp_if rfl (fun hb => ?_) (fun hb => ?_) <;> (try simp at hb) <;> try (exfalso; omega))
        | fail
      all_goals refine ⟨Gr.refl _, _, .refl _, _, rfl, ?_⟩
      all_goals simp
      all_goals omega
    · obtain ⟨m, rfl⟩ : ∃ m : Nat, x = (m : Int) := ⟨x.toNat, by omega⟩
      obtain ⟨m1, hm1⟩ : ∃ m1 : Nat, (m : Int) + 1 = m1 := ⟨m + 1, rfl⟩
      have hq : Int.tdiv (m : Int) 10 = ((m / 10 : Nat) : Int) := rfl
      have hr : Int.tmod (m : Int) 10 = ((m % 10 : Nat) : Int) := rfl
      obtain ⟨q, hqm⟩ : ∃ q : Nat, m / 10 = q := ⟨_, rfl⟩
      obtain ⟨r, hrm⟩ : ∃ r : Nat, m % 10 = r := ⟨_, rfl⟩
      rw [hqm] at hq
      rw [hrm] at hr
      obtain ⟨r1, hr1⟩ : ∃ r1 : Nat, (r : Int) + 1 = r1 := ⟨r + 1, rfl⟩
      repeat' first
        | refine aSq ?_ | refine aRt ?_ | refine aSk ?_ | refine tN ?_ | refine tR ?_
        | (refine rg 1 ?_; refine tk 2 ?_ (by simp (disch := omega) [hm1, hq, hr, hr1, conj_if, small_if]; with_reducible rfl); (first | (refine te (hs := (by simp (disch := omega) [hm1, hq, hr, hr1, conj_if, small_if]; with_reducible rfl)) (fun hb => ?_) (fun hb => ?_) <;> (try simp at hb) <;> try (exfalso; omega)) | (refine tk 1 ?_ (by simp (disch := omega) [hm1, hq, hr, hr1, conj_if, small_if]; with_reducible rfl))); all_goals (refine tk 3 ?_ (by simp (disch := omega) [hm1, hq, hr, hr1, conj_if, small_if]; with_reducible rfl); refine dn ?_))
        | (refine dr 7 [(0, true), (1, true), (3, true), (4, true), (5, true), (6, true), (7, true), (8, true), (2, false), (9, true), (10, true)] [] ?_; refine da 8 (fun _ => ?_) (h := (by simp (disch := omega) [hm1, hq, hr, hr1, conj_if, small_if]; with_reducible rfl)); refine df en137 ?_; refine (ih _ _ (by omega) (by omega) (by omega) (by omega) (by omega)).mono ?_; rintro x1 H1 ⟨rfl, s1, rfl, hs1⟩; refine ⟨.inr rfl, ?_⟩; refine dl ?_ (h := (by simp (disch := omega) [hm1, hq, hr, hr1, conj_if, small_if]; with_reducible rfl)))
        | (refine ru ?_ (by simp (disch := omega) [hm1, hq, hr, hr1, conj_if, small_if]; with_reducible rfl))
        | (refine awp_if rfl (fun hb => ?_) (fun hb => ?_) <;> (try simp at hb) <;> try (exfalso; omega))
        | fail
      all_goals refine ⟨Gr.refl _, _, .refl _, _, rfl, ?_⟩
      all_goals simp
      all_goals omega
end Go.Av
namespace Go.Av
open Go.Proofs
variable {W0 : World}
set_option maxRecDepth 10000
set_option maxHeartbeats 4000000
def TokR (l : List Nat) (i : Nat) (r : AV) : Prop := ∃ (t : Tok) (tz : Int) (ok : Bool), r = .tuple [.agg t.av, .int .i64 tz, .bool ok] ∧ t.text.length ≤ 67108863 ∧ (ok = true → ∃ n : Nat, tz = n ∧ i < n ∧ n ≤ l.length)
theorem tokr_ret {l : List Nat} {i : Nat} {H : Hp} {st : St} (t : Tok) {tz : Int} {ok : Bool} (hl : look st.env 4 = .ref H.objs.length 0) (ho : st.H = ⟨H.objs ++ [.cells t.av], H.hi⟩) (h5 : look st.env 5 = .int .i64 tz) (h6 : look st.env 6 = .bool ok) (ht : t.text.length ≤ 67108863)
    (hk : ok = true → ∃ n : Nat, tz = n ∧ i < n ∧ n ≤ l.length) : retC tab 4 77 [5, 6] (fun r H' => Gr H H' ∧ ∃ r', Le (cln H.objs.length H.hi.length r) r' ∧ TokR l i r') .ret st := by
  refine ⟨.agg t.av, ?_, ?_, .tuple [.agg t.av, .int .i64 tz, .bool ok], ?_, t, tz, ok, rfl, ht, hk⟩
  · rw [hl, ho]; simp [Tok.av]
  · rw [ho]; exact (Gr.refl H).obj _
  · simp only [List.map_cons, List.map_nil, h5, h6]; simp [Tok.av]
theorem sf96 {l : List Nat} {own : Own} {i : Nat} {H : Hp} (hl : runesOK l) (hi : i < l.length) (hc : cls l[i] = 1) : SF Tryz.prog W0 96 [.sl 1 (rns l) own, .int .i64 i] H fun r H' => H' = H ∧ TokR l i r := by
  have hl' := hl
  unfold runesOK at hl'
  refine SF.pureLe (sf_startC 4 77 [5, 6] 95 tab_ok Tryz.func96 rfl rfl rfl (by decide) (by simp) ?_)
  repeat' first
    | refine aSq ?_
    | (refine rg 1 ?_; refine tk 3 ?_; refine fc en133 ?_; refine (sf133 hl (by omega)).mono ?_; rintro x1 H1 ⟨rfl, n1, rfl, hn1, hk1⟩; refine tk 2 ?_; refine dn ?_)
    | refine ru ?_
    | fail
  have hk := hk1 hi hc
  obtain ⟨j, hj⟩ : ∃ j : Nat, (i : Int) + n1 = j := ⟨i + n1, rfl⟩
  have hjn : j = i + n1 := by omega
  repeat' first
    | refine aSq ?_ | refine aRt ?_ | refine aSk ?_ | refine aBl ?_ | refine tN ?_ | refine tR ?_
    | (refine rg 2 ?_; refine tk 3 ?_ (by simp (disch := omega) [hj]; with_reducible rfl); refine fc en52 ?_; refine (sf52 hl (by omega)).mono ?_; rintro x1 H1 ⟨rfl, s1, rfl, hs1⟩; refine tk 1 ?_ (by simp (disch := omega) [hj]; with_reducible rfl); refine dn ?_)
    | (refine rg 3 ?_; refine tk 1 ?_ (by simp (disch := omega) [hj]; with_reducible rfl); refine fc en134 ?_; refine SF.then sf134 ?_; (first | (refine te (hs := (by simp (disch := omega) [hj]; with_reducible rfl)) (fun hb => ?_) (fun hb => ?_) <;> (try simp at hb) <;> try (exfalso; omega)) | (refine tk 1 ?_ (by simp (disch := omega) [hj]; with_reducible rfl))); all_goals (refine tk 4 ?_ (by simp (disch := omega) [hj]; with_reducible rfl); (first | (refine te (hs := (by simp (disch := omega) [hj]; with_reducible rfl)) (fun hb => ?_) (fun hb => ?_) <;> (try simp at hb) <;> try (exfalso; omega)) | (refine tk 1 ?_ (by simp (disch := omega) [hj]; with_reducible rfl))); all_goals (refine tk 7 ?_ (by simp (disch := omega) [hj]; with_reducible rfl); refine dn ?_)))
    | (refine rg 5 ?_; refine tk 1 ?_ (by simp (disch := omega) [hj]; with_reducible rfl); refine fc en135 ?_; refine SF.then (sf135 (by omega)) ?_; (first | (refine te (hs := (by simp (disch := omega) [hj]; with_reducible rfl)) (fun hb => ?_) (fun hb => ?_) <;> (try simp at hb) <;> try (exfalso; omega)) | (refine tk 1 ?_ (by simp (disch := omega) [hj]; with_reducible rfl))); all_goals (refine tk 1 ?_ (by simp (disch := omega) [hj]; with_reducible rfl); (first | (refine fg en134 ?_; refine SF.then sf134 ?_) | (refine tk 1 ?_ (by simp (disch := omega) [hj]; with_reducible rfl))); refine tk 3 ?_ (by simp (disch := omega) [hj]; with_reducible rfl); refine dn ?_))
    | (refine ru ?_ (by simp (disch := omega) [hj]; with_reducible rfl))
    | (refine awp_if rfl (fun hb => ?_) (fun hb => ?_) <;> (try simp at hb) <;> try (exfalso; omega))
    | fail
  all_goals first
    | exact tokr_ret ⟨3, s1, 0, 0⟩ rfl rfl rfl rfl (by simp only; omega) (fun _ => ⟨j, rfl, by omega, by omega⟩)
    | skip
  all_goals
   refine awp_loop_inv (fun q st => ∃ (tz : Nat) (w : Str) (ok : Bool), q = l.length - tz ∧ i < tz ∧ tz ≤ l.length ∧ Sub st ⟨95, [(0, .sl 1 (rns l) own), (1, .int .i64 i), (4, .ref H.objs.length 0), (7, .int .i64 tz), (8, .str w), (9, .bool ok)], ⟨H.objs ++ [.cells [.int .i64 0, .str [], .int .i64 0, .int .i64 0]], H.hi⟩⟩) (l.length - j)
    ⟨j, s1, _, rfl, by omega, by omega, sb (by (repeat' first | exact only_nil | refine only_cons (by first | (simp (disch := omega); done) | exact Le.refl _) ?_))⟩ ?_
   rintro q st ⟨tz, w, ok, rfl, hto, hto2, hs2⟩
   refine awp_sub hs2 ?_
   clear hs2 st
   obtain ⟨to1, ht1⟩ : ∃ k : Nat, (tz : Int) + 1 = k := ⟨tz + 1, rfl⟩
   have ht1n : to1 = tz + 1 := by omega
   repeat' first
     | refine aSq ?_ | refine aRt ?_ | refine aSk ?_ | refine aEx ?_ | refine aBl ?_ | refine tN ?_
     | (refine rg 6 ?_; refine tk 1 ?_ (by simp (disch := omega) [ht1]; with_reducible rfl); (first | (refine te (hs := (by simp (disch := omega) [ht1]; with_reducible rfl)) (fun hb => ?_) (fun hb => ?_) <;> (try simp at hb) <;> try (exfalso; omega)) | (refine tk 1 ?_ (by simp (disch := omega) [ht1]; with_reducible rfl))); all_goals (refine tk 5 ?_ (by simp (disch := omega) [ht1]; with_reducible rfl); (first | (refine te (hs := (by simp (disch := omega) [ht1]; with_reducible rfl)) (fun hb => ?_) (fun hb => ?_) <;> (try simp at hb) <;> try (exfalso; omega)) | (refine tk 1 ?_ (by simp (disch := omega) [ht1]; with_reducible rfl))); all_goals (refine tk 6 ?_ (by simp (disch := omega) [ht1]; with_reducible rfl); refine dn ?_)))
     | (refine rg 7 ?_; refine tk 3 ?_ (by simp (disch := omega) [ht1]; with_reducible rfl); refine fc en133 ?_; refine (sf133 hl (by omega)).mono ?_; rintro x1 H1 ⟨rfl, n2, rfl, hn2, hk2⟩; refine tk 1 ?_ (by simp (disch := omega) [ht1]; with_reducible rfl); refine dn ?_)
     | (refine rg 11 ?_; refine tk 3 ?_ (by simp (disch := omega) [ht1]; with_reducible rfl); refine fc en52 ?_; refine (sf52 hl (by omega)).mono ?_; rintro x1 H1 ⟨rfl, s2, rfl, hs2⟩; refine tk 1 ?_ (by simp (disch := omega) [ht1]; with_reducible rfl); refine dn ?_)
     | (refine rg 12 ?_; refine tk 4 ?_ (by simp (disch := omega) [ht1]; with_reducible rfl); (first | (refine te (hs := (by simp (disch := omega) [ht1]; with_reducible rfl)) (fun hb => ?_) (fun hb => ?_) <;> (try simp at hb) <;> try (exfalso; omega)) | (refine tk 1 ?_ (by simp (disch := omega) [ht1]; with_reducible rfl))); all_goals (refine tk 7 ?_ (by simp (disch := omega) [ht1]; with_reducible rfl); refine dn ?_))
     | (refine awp_if rfl (fun hb => ?_) (fun hb => ?_) <;> (try simp at hb) <;> try (exfalso; omega))
     | fail
   all_goals first
     | exact tokr_ret ⟨1, s2, 0, 0⟩ rfl rfl rfl rfl (by simp only; omega) (fun _ => ⟨tz, rfl, by omega, by omega⟩)
     | (obtain ⟨m, hm⟩ : ∃ m : Nat, (to1 : Int) + n2 = m := ⟨to1 + n2, rfl⟩
        have hmn : m = to1 + n2 := by omega
        repeat' first
          | refine aSq ?_ | refine tN ?_
          | (refine rg 8 ?_; refine tk 7 ?_ (by simp (disch := omega) [ht1, hm]; with_reducible rfl); refine fc en52 ?_; refine (sf52 hl (by omega)).mono ?_; rintro x1 H1 ⟨rfl, s2, rfl, hs2⟩; refine tk 1 ?_ (by simp (disch := omega) [ht1, hm]; with_reducible rfl); refine dn ?_)
          | (refine rg 9 ?_; refine tk 1 ?_ (by simp (disch := omega) [ht1, hm]; with_reducible rfl); refine fc en135 ?_; refine SF.then (sf135 (by omega)) ?_; (first | (refine te (hs := (by simp (disch := omega) [ht1, hm]; with_reducible rfl)) (fun hb => ?_) (fun hb => ?_) <;> (try simp at hb) <;> try (exfalso; omega)) | (refine tk 1 ?_ (by simp (disch := omega) [ht1, hm]; with_reducible rfl))); all_goals (refine tk 1 ?_ (by simp (disch := omega) [ht1, hm]; with_reducible rfl); (first | (refine fg en134 ?_; refine SF.then sf134 ?_) | (refine tk 1 ?_ (by simp (disch := omega) [ht1, hm]; with_reducible rfl))); refine tk 3 ?_ (by simp (disch := omega) [ht1, hm]; with_reducible rfl); refine dn ?_))
          | (refine ru ?_ (by simp (disch := omega) [ht1, hm]; with_reducible rfl))
          | refine inN ?_
        all_goals exact ⟨l.length - m, by omega, m, s2, _, rfl, by omega, by omega, sb (by (repeat' first | exact only_nil | refine only_cons (by first | (simp (disch := omega); done) | exact Le.refl _) ?_))⟩)
     | trace_state
end Go.Av
namespace Go.Av
open Go.Proofs
variable {W0 : World}
set_option maxRecDepth 10000
set_option maxHeartbeats 4000000
theorem cls2 {n : Nat} (h : cls n = 2) : 48 ≤ n ∧ n ≤ 57 := by
  unfold cls at h
  repeat' split at h
  all_goals first | omega | simp at h
theorem sf97 {l : List Nat} {own : Own} {i : Nat} {H : Hp} (hl : runesOK l) (hi : i < l.length) : SF Tryz.prog W0 97 [.sl 1 (rns l) own, .int .i64 i] H fun r H' => H' = H ∧ TokR l i r := by
  have hl' := hl
  unfold runesOK at hl'
  refine SF.pureLe (sf_startC 4 77 [5, 6] 72 tab_ok Tryz.func97 rfl rfl rfl (by decide) (by simp) ?_)
  repeat' first
    | (refine cutIf 2 (fun s' => ∃ fr : Nat, i ≤ fr ∧ fr ≤ l.length ∧ Sub s' ⟨72, [(0, .sl 1 (rns l) own), (1, .int .i64 i), (4, .ref H.objs.length 0), (7, .int .i64 fr)], ⟨H.objs ++ [.cells [.int .i64 0, .str [], .int .i64 0, .int .i64 0]], H.hi⟩⟩) (aSq ?_) (fun s' hs' => ?_))
    | refine aSq ?_ | refine aSk ?_ | refine tN ?_
    | refine ru ?_
    | (refine awp_if rfl (fun hb => ?_) (fun hb => ?_) <;> (try simp at hb) <;> try (exfalso; omega))
    | fail
  · exact ⟨rfl, i + 1, by omega, by omega, sb⟩
  · exact ⟨rfl, i, by omega, by omega, sb⟩
  obtain ⟨fr, hf1, hf2, hs'⟩ := hs'
  refine awp_sub hs' ?_
  clear hs' s'
  repeat' first
    | refine aSq ?_ | refine aBl ?_
    | refine ru ?_
    | fail
  refine awp_loop_inv (fun q st => ∃ (tz v : Nat), q = l.length - tz ∧ fr ≤ tz ∧ tz ≤ l.length ∧ v ≤ 1073741824 ∧ Sub st ⟨72, [(0, .sl 1 (rns l) own), (1, .int .i64 i), (4, .ref H.objs.length 0), (7, .int .i64 tz), (8, .int .i64 fr), (9, .int .i64 v)], ⟨H.objs ++ [.cells [.int .i64 0, .str [], .int .i64 0, .int .i64 0]], H.hi⟩⟩) (l.length - fr)
    ⟨fr, 0, rfl, by omega, by omega, by omega, sb⟩ ?_
  rintro q st ⟨tz, v, rfl, hto, hto2, hv, hs2⟩
  refine awp_sub hs2 ?_
  clear hs2 st
  repeat' first
    | refine aSq ?_ | refine aRt ?_ | refine aSk ?_ | refine aEx ?_ | refine aBl ?_ | refine tN ?_ | refine tR ?_ | refine iR ?_
    | (refine rg 6 ?_; refine tk 4 ?_; (first | (refine te (fun hb => ?_) (fun hb => ?_) <;> (try simp at hb) <;> try (exfalso; omega)) | (refine tk 1 ?_)); all_goals (refine tk 4 ?_; (first | (refine fg en53 ?_; refine SF.then sf53 ?_) | (refine tk 1 ?_)); refine tk 2 ?_; refine dn ?_))
    | (refine rg 7 ?_; have hcl := cls2 (n := l[tz]) (by assumption); refine tk 10 ?_; refine dn ?_)
    | (refine rg 11 ?_; refine tk 3 ?_; (first | (refine te (fun hb => ?_) (fun hb => ?_) <;> (try simp at hb) <;> try (exfalso; omega)) | (refine tk 1 ?_)); all_goals (refine tk 4 ?_; (first | (refine te (fun hb => ?_) (fun hb => ?_) <;> (try simp at hb) <;> try (exfalso; omega)) | (refine tk 1 ?_)); all_goals (refine tk 4 ?_; (first | (refine fg en136 ?_; refine SF.then sf136 ?_) | (refine tk 1 ?_)); refine tk 2 ?_; refine dn ?_)))
    | (refine rg 15 ?_; refine tk 1 ?_; refine fc en137 ?_; (first | (refine (sf137 12 (v : Int) _ (by omega) (by omega) (by omega) (by omega) (by omega)).mono ?_; rintro x1 H1 ⟨rfl, s1, rfl, hs1⟩) | (refine (sf137 12 (-(v : Int)) _ (by omega) (by omega) (by omega) (by omega) (by omega)).mono ?_; rintro x1 H1 ⟨rfl, s1, rfl, hs1⟩)); refine tk 6 ?_; refine dn ?_)
    | refine ru ?_
    | (refine awp_if rfl (fun hb => ?_) (fun hb => ?_) <;> (try simp at hb) <;> try (exfalso; omega))
    | refine inN ?_
  all_goals first
    | exact tokr_ret ⟨0, [], 0, 0⟩ rfl rfl rfl rfl (by simp) (fun h => by cases h)
    | exact tokr_ret ⟨2, s1, _, 0⟩ rfl rfl rfl rfl (by simp only; omega) (fun _ => ⟨tz, rfl, by omega, by omega⟩)
    | exact ⟨l.length - (tz + 1), by omega, tz + 1, 10 * v + l[tz] - 48, rfl, by omega, by omega, by omega, sb (by (repeat' first | exact only_nil | refine only_cons (by first | (simp (disch := omega); done) | exact Le.of_eq (congrArg (AV.int .i64) (by omega))) ?_))⟩
    | fail
theorem sf55 {l : List Nat} {own : Own} {i : Nat} {H : Hp} (hl : runesOK l) (hi : i < l.length) : SF Tryz.prog W0 55 [.sl 1 (rns l) own, .int .i64 i] H fun r H' => H' = H ∧ TokR l i r := by
  have hl' := hl
  unfold runesOK at hl'
  refine SF.pureLe (sf_startC 4 77 [5, 6] 91 tab_ok Tryz.func55 rfl rfl rfl (by decide) (by simp) ?_)
  repeat' first
    | refine aSq ?_ | refine aRt ?_ | refine aSk ?_ | refine aBl ?_ | refine tN ?_ | refine tR ?_
    | (refine rg 1 ?_; refine tk 4 ?_ (by simp (disch := omega) [Tok.av]; with_reducible rfl); refine fc en53 ?_; refine SF.then sf53 ?_; refine tk 1 ?_ (by simp (disch := omega) [Tok.av]; with_reducible rfl); refine dn ?_)
    | (refine rg 3 ?_; refine tk 2 ?_ (by simp (disch := omega) [Tok.av]; with_reducible rfl); refine fc en96 ?_; refine (sf96 hl hi (by assumption)).mono ?_; rintro x1 H1 ⟨rfl, t1, to1, ok1, rfl, ht1, hk1⟩; refine tk 6 ?_ (by simp (disch := omega) [Tok.av]; with_reducible rfl); refine dn ?_)
    | (refine rg 4 ?_; refine tk 2 ?_ (by simp (disch := omega) [Tok.av]; with_reducible rfl); (first | (refine te (hs := (by simp (disch := omega) [Tok.av]; with_reducible rfl)) (fun hb => ?_) (fun hb => ?_) <;> (try simp at hb) <;> try (exfalso; omega)) | (refine tk 1 ?_ (by simp (disch := omega) [Tok.av]; with_reducible rfl))); all_goals (refine tk 6 ?_ (by simp (disch := omega) [Tok.av]; with_reducible rfl); refine dn ?_))
    | (refine rg 5 ?_; refine tk 2 ?_ (by simp (disch := omega) [Tok.av]; with_reducible rfl); refine fc en97 ?_; refine (sf97 hl hi).mono ?_; rintro x1 H1 ⟨rfl, t1, to1, ok1, rfl, ht1, hk1⟩; refine tk 6 ?_ (by simp (disch := omega) [Tok.av]; with_reducible rfl); refine dn ?_)
    | (refine rg 6 ?_; refine fc en98 ?_; refine sf98.mono ?_; rintro x1 H1 ⟨rfl, x, rfl, hx, hx2⟩; refine tk 1 ?_ (by simp (disch := omega) [Tok.av]; with_reducible rfl); refine dn ?_)
    | (refine ru ?_ (by simp (disch := omega) [Tok.av]; with_reducible rfl))
    | (refine awp_if rfl (fun hb => ?_) (fun hb => ?_) <;> (try simp at hb) <;> try (exfalso; omega))
    | fail
  all_goals first
    | exact tokr_ret t1 rfl rfl rfl rfl ht1 hk1
    | skip
  refine awp_loop_inv (fun q st => ∃ (k : Nat) (b : Str), q = x.length - k ∧ k ≤ x.length ∧ b.length ≤ 2 ∧ i + b.length ≤ l.length ∧ Sub st ⟨91, [(0, .sl 1 (rns l) own), (1, .int .i64 i), (4, .ref H.objs.length 0), (8, .sl 1 (strs x) .shut), (9, .str b), (10, .int .i64 k)], ⟨H.objs ++ [.cells [.int .i64 0, .str [], .int .i64 0, .int .i64 0]], H.hi⟩⟩) x.length
    ⟨0, [], rfl, by omega, by simp, by simp; omega, sb⟩ ?_
  rintro q st ⟨k, b, rfl, hk, hb1, hb2, hs2⟩
  refine awp_sub hs2 ?_
  clear hs2 st
  repeat' first
    | refine aSq ?_ | refine aRt ?_ | refine aSk ?_ | refine aEx ?_ | refine aBl ?_ | refine tN ?_
    | (refine rg 11 ?_; (have hlt : k < x.length := by assumption); have hx3 := hx2 x[k] (List.getElem_mem hlt); obtain ⟨j, hj⟩ : ∃ j : Nat, (i : Int) + x[k].length = j := ⟨i + x[k].length, rfl⟩; (have hjn : j = i + x[k].length := by omega); refine tk 8 ?_ (by simp (disch := omega) [hj]; with_reducible rfl); refine dn ?_)
    | refine ru ?_
    | (refine awp_if rfl (fun hb => ?_) (fun hb => ?_) <;> (try simp at hb) <;> try (exfalso; omega))
    | fail
  · repeat' first
      | refine aSk ?_ | refine tN ?_
      | (refine dr 12 [(0, true), (1, true), (2, true), (3, true), (4, true), (5, true), (6, true), (7, true), (9, true), (10, true), (11, true), (12, true), (8, false), (13, true), (14, true), (15, true), (16, true), (17, true), (18, true), (19, true), (20, true), (21, true), (22, true), (23, true), (24, true)] [] ?_; refine da 4 (fun _ => ?_) (h := (by simp (disch := omega) [hj, small_if]; with_reducible rfl)); (first | (refine de (hs' := (by simp (disch := omega) [hj, small_if]; with_reducible rfl)) (fun hb => ?_) (fun hb => ?_) <;> (try simp at hb) <;> try (exfalso; omega)) | (refine da 1 (fun _ => ?_) (h := (by simp (disch := omega) [hj, small_if]; with_reducible rfl)))); all_goals (refine da 7 (fun _ => ?_) (h := (by simp (disch := omega) [hj, small_if]; with_reducible rfl)); (first | (refine dg en52 ?_; refine (sf52 hl (by omega)).mono ?_; rintro x1 H1 ⟨rfl, s2, rfl, hs2⟩; refine ⟨.inr rfl, ?_⟩) | (refine ds ?_ (hs' := (by simp (disch := omega) [hj, small_if]; with_reducible rfl)))); refine da 2 (fun _ => ?_) (h := (by simp (disch := omega) [hj, small_if]; with_reducible rfl)); (first | (refine de (hs' := (by simp (disch := omega) [hj, small_if]; with_reducible rfl)) (fun hb => ?_) (fun hb => ?_) <;> (try simp at hb) <;> try (exfalso; omega)) | (refine da 1 (fun _ => ?_) (h := (by simp (disch := omega) [hj, small_if]; with_reducible rfl)))); all_goals (refine dl ?_ (h := (by simp (disch := omega) [hj, small_if]; with_reducible rfl)))))
      | (refine ru ?_ (by simp (disch := omega) [hj, small_if]; with_reducible rfl))
      | (refine awp_if rfl (fun hb => ?_) (fun hb => ?_) <;> (try simp at hb) <;> try (exfalso; omega))
      | fail
    · exact ⟨x.length - (k + 1), by omega, k + 1, x[k], rfl, by omega, by omega, by omega, sb⟩
    all_goals exact ⟨x.length - (k + 1), by omega, k + 1, b, rfl, by omega, by omega, by omega, sb⟩
  · first
      | exact tokr_ret ⟨3, b, 0, 0⟩ rfl rfl rfl rfl (by simp only; omega) (fun h => ⟨i + b.length, by simp, by (rcases b with _ | ⟨c, b⟩; simp at h; simp), by omega⟩)
      | fail
end Go.Av
namespace Go.Av
open Go.Proofs
open Go.Lib (validD)
variable {W0 : World}
set_option maxRecDepth 10000
set_option maxHeartbeats 4000000
theorem lex_err {H : Hp} {s : Str} {st : St} {a e : Int} (hg : Gr H st.H) (h2 : look st.env 2 = .slnil) (h3 : look st.env 3 = .int .i64 a) (h4 : look st.env 4 = .int .i64 e) :
    retQ [2, 3, 4] (fun r H' => Gr H H' ∧ ∃ r', Le (cln H.objs.length H.hi.length r) r' ∧ ∃ (l : List Tok) (a e : Int), r' = .tuple [.sl 4 (toks l) .shut, .int .i64 a, .int .i64 e] ∧ TokOKs l ∧ l.length ≤ s.length) .ret st := by
  refine ⟨hg, .tuple [.sl 4 (toks []) .shut, .int .i64 a, .int .i64 e], ?_, [], a, e, rfl, ⟨by simp, by simp⟩, by simp⟩
  simp only [List.map_cons, List.map_nil, h2, h3, h4, cln, clnL]
  exact .tuple (.cons (.nilShut 4) (.cons (.refl _) (.cons (.refl _) .nil)))
theorem sf30 {s : Str} {H : Hp} (hs : s.length ≤ 67108864) : SF Tryz.prog W0 30 [.str s] H fun r H' => H' = H ∧ ∃ (l : List Tok) (a e : Int), r = .tuple [.sl 4 (toks l) .shut, .int .i64 a, .int .i64 e] ∧ TokOKs l ∧ l.length ≤ s.length := by
  refine SF.pureLe (sf_start [2, 3, 4] 89 Tryz.func30 rfl rfl rfl (by decide) (by simp) ?_)
  obtain ⟨rs, e5, hrl, hif⟩ : ∃ (rs : List Nat) (e5 : Int), rs.length ≤ s.length ∧ (if validD s then AV.tuple [.sl 1 (rns (runes s)) .shut, .int .i64 0] else .tuple [.sl 1 [] .shut, .int .i64 4]) = .tuple [.sl 1 (rns rs) .shut, .int .i64 e5] := by
    by_cases hv : validD s = true
    · exact ⟨runes s, 0, runesF_len _ _, by rw [if_pos hv]⟩
    · exact ⟨[], 4, by simp, by rw [if_neg hv]; rfl⟩
  repeat' first
    | refine aSq ?_ | refine aRt ?_ | refine aSk ?_ | refine aBl ?_ | refine tN ?_ | refine tR ?_
    | (refine rg 1 ?_; refine tk 1 ?_; refine fc en50 ?_; refine (sf50 (by omega)).mono ?_; rintro x1 H1 ⟨rfl, p1, e1, rfl, he1⟩; refine tk 5 ?_; refine dn ?_)
    | (refine rg 4 ?_; refine tk 1 ?_; refine fc en51 ?_; refine (sf51 (by omega)).mono ?_; rintro x1 H1 ⟨rfl, rfl⟩; rw [hif]; refine tk 5 ?_; refine dn ?_)
    | refine ru ?_
    | (refine awp_if rfl (fun hb => ?_) (fun hb => ?_) <;> (try simp at hb) <;> try (exfalso; omega))
    | fail
  · exact ⟨Gr.refl _, .tuple [.sl 4 (toks []) .shut, .int .i64 p1, .int .i64 e1], by simp; exact .tuple (.cons (.nilShut 4) (.cons (.refl _) (.cons (.refl _) .nil))), [], p1, e1, rfl, ⟨by simp, by simp⟩, by simp⟩
  have hsl : s.length ≤ 16384 := he1 (by assumption)
  have hrk : runesOK rs := by unfold runesOK; omega
  refine awp_loop_inv (fun q st => ∃ (i : Nat) (ts : List Tok) (v : AV) (Hc : Hp), q = rs.length - i ∧ i ≤ rs.length ∧ ts.length ≤ i ∧ (∀ t ∈ ts, t.text.length ≤ 67108863) ∧ Gr H1 Hc ∧ App H1 Hc 4 (toks ts) v ∧
    Sub st ⟨89, [(7, .sl 1 (rns rs) .shut), (9, v), (10, .int .i64 i)], Hc⟩) rs.length
    ⟨0, [], .slnil, H1, rfl, by omega, by simp, by simp, Gr.refl _, App.slnil _ _ _, sb⟩ ?_
  rintro q st ⟨i, ts, v, Hc, rfl, hi, htl, htt, hg, a1, hs2⟩
  refine awp_sub hs2 ?_
  clear hs2 st
  obtain ⟨j, hj⟩ : ∃ j : Nat, (i : Int) + 1 = j := ⟨i + 1, rfl⟩
  have hjn : j = i + 1 := by omega
  repeat' first
    | refine aSq ?_ | refine aRt ?_ | refine aSk ?_ | refine aEx ?_ | refine aBl ?_ | refine tN ?_ | refine tR ?_ | refine tE ?_ | refine iR ?_
    | (refine rg 8 ?_; refine tk 2 ?_ (by simp (disch := omega) [hj, Tok.av]; with_reducible rfl); refine fc en52 ?_; refine (sf52 (a := 0) (b := i) hrk hi).mono ?_; rintro x1 H2 ⟨rfl, s2, rfl, hs2⟩; refine tk 2 ?_ (by simp (disch := omega) [hj, Tok.av]; with_reducible rfl); refine dn ?_)
    | (refine rg 9 ?_; refine tk 4 ?_ (by simp (disch := omega) [hj, Tok.av]; with_reducible rfl); refine fc en53 ?_; refine SF.then sf53 ?_; refine tk 1 ?_ (by simp (disch := omega) [hj, Tok.av]; with_reducible rfl); refine dn ?_)
    | (refine rg 11 ?_; refine tk 5 ?_ (by simp (disch := omega) [hj, Tok.av]; with_reducible rfl); (first | (refine te (hs := (by simp (disch := omega) [hj, Tok.av]; with_reducible rfl)) (fun hb => ?_) (fun hb => ?_) <;> (try simp at hb) <;> try (exfalso; omega)) | (refine tk 1 ?_ (by simp (disch := omega) [hj, Tok.av]; with_reducible rfl))); all_goals (refine tk 6 ?_ (by simp (disch := omega) [hj, Tok.av]; with_reducible rfl); (first | (refine te (hs := (by simp (disch := omega) [hj, Tok.av]; with_reducible rfl)) (fun hb => ?_) (fun hb => ?_) <;> (try simp at hb) <;> try (exfalso; omega)) | (refine tk 1 ?_ (by simp (disch := omega) [hj, Tok.av]; with_reducible rfl))); all_goals (refine tk 7 ?_ (by simp (disch := omega) [hj, Tok.av]; with_reducible rfl); refine dn ?_)))
    | (refine rg 12 ?_; refine tk 2 ?_ (by simp (disch := omega) [hj, Tok.av]; with_reducible rfl); refine fc en54 ?_; refine (sf54 hrk hi).mono ?_; rintro x1 H3 ⟨rfl, n3, rfl, hn3⟩; refine tk 1 ?_ (by simp (disch := omega) [hj, Tok.av]; with_reducible rfl); refine dn ?_)
    | (refine rg 15 ?_; refine tk 2 ?_ (by simp (disch := omega) [hj, Tok.av]; with_reducible rfl); refine fc en55 ?_; refine (sf55 hrk (by assumption)).mono ?_; rintro x1 H3 ⟨rfl, t3, to3, ok3, rfl, ht3, hk3⟩; refine tk 8 ?_ (by simp (disch := omega) [hj, Tok.av]; with_reducible rfl); refine dn ?_)
    | (refine rg 19 ?_; refine tk 3 ?_; obtain ⟨v', H', e3, a2, g2, o2⟩ := (a1.same (H' := ⟨H3.objs ++ [.cells [.int .i64 t3.kind, .str t3.text, .int .i64 t3.n, .int .i64 s2.length]], H3.hi⟩) rfl).append (T := tab) (hg.obj _) (x := .sl 4 [(Tok.mk t3.kind t3.text t3.n s2.length).av] .capped) (fs := [(Tok.mk t3.kind t3.text t3.n s2.length).av]) (t := 71) (e := 77) tab71 tab77 rfl (by decide) (by simp [Tok.av]) (by simp [Tok.av]) (by simp; omega); simp only [Tok.av] at e3; refine tk 2 ?_ (by simp [e3]; with_reducible rfl); refine dn ?_)
    | (refine ru ?_ (by simp (disch := omega) [hj, Tok.av]; with_reducible rfl))
    | (refine awp_if rfl (fun hb => ?_) (fun hb => ?_) <;> (try simp at hb) <;> try (exfalso; omega))
    | refine inE ?_
    | refine inN ?_
  · exact ⟨rs.length - j, by omega, j, ts, v, _, rfl, by omega, by omega, htt, hg, a1, sb⟩
  · exact lex_err hg rfl rfl rfl
  · have hn := hn3.resolve_left (by omega)
    exact ⟨rs.length - n3, by omega, n3, ts, v, _, rfl, by omega, by omega, htt, hg, a1, sb⟩
  iterate 3
    · exact lex_err (hg.obj _) rfl rfl rfl
    · obtain ⟨n, rfl, hn1, hn2⟩ := hk3 (by assumption)
      refine ⟨rs.length - n, by omega, n, ts ++ [Tok.mk t3.kind t3.text t3.n s2.length], v', H', rfl, hn2, by simp; omega, fun t ht => ?_, g2, ?_, sb⟩
      · rcases List.mem_append.1 ht with q | q
        · exact htt t q
        · rw [List.mem_singleton.1 q]; exact ht3
      · have e5 : toks (ts ++ [Tok.mk t3.kind t3.text t3.n s2.length]) = toks ts ++ [(Tok.mk t3.kind t3.text t3.n s2.length).av] := by simp [toks]
        rw [e5]; exact a2
  · have q := a1.le'
    simp only [toks_cln] at q
    exact ⟨hg, .tuple [.sl 4 (toks ts) .shut, .int .i64 0, .int .i64 0], by simp; exact .tuple (.cons q (.cons (.refl _) (.cons (.refl _) .nil))), ts, 0, 0, rfl, ⟨by omega, htt⟩, by omega⟩
end Go.Av
namespace Go.Av
open Go.Proofs
variable {W0 : World}
set_option maxRecDepth 10000
set_option maxHeartbeats 4000000
theorem src_none {H : Hp} {s : Str} {st : St} {a e : Int} (hg : Gr H st.H) (h2 : look st.env 2 = .nilp) (h3 : look st.env 3 = .int .i64 a) (h4 : look st.env 4 = .int .i64 e) :
    retQ [2, 3, 4] (fun r H' => Gr H H' ∧ ∃ r', Le (cln H.objs.length H.hi.length r) r' ∧ ∃ (t : Tr) (a e : Int), r' = .tuple [t.av, .int .i64 a, .int .i64 e] ∧ t.neat ∧ t.cnt ≤ 2 * s.length + 1) .ret st := by
  refine ⟨hg, .tuple [Tr.none.av, .int .i64 a, .int .i64 e], ?_, .none, a, e, rfl, trivial, by simp [Tr.cnt]⟩
  simp only [List.map_cons, List.map_nil, h2, h3, h4, cln, clnL, Tr.av]
  exact .refl _
theorem sf19 {s : Str} {H : Hp} (hs : s.length ≤ 67108864) : SF Tryz.prog W0 19 [.str s] H fun r H' => H' = H ∧ ∃ (t : Tr) (a e : Int), r = .tuple [t.av, .int .i64 a, .int .i64 e] ∧ t.neat ∧ t.cnt ≤ 2 * s.length + 1 := by
  refine SF.pureLe (sf_start [2, 3, 4] 59 Tryz.func19 rfl rfl rfl (by decide) (by simp) ?_)
  repeat' first
    | refine aSq ?_ | refine aRt ?_ | refine aSk ?_ | refine tN ?_ | refine tR ?_
    | (refine rg 1 ?_; refine tk 1 ?_; refine fc en30 ?_; refine (sf30 hs).mono ?_; rintro x1 H1 ⟨rfl, l, a1, e1, rfl, hl, hll⟩; refine tk 7 ?_; refine dn ?_)
    | (refine rg 4 ?_; refine tk 1 ?_; refine fc en31 ?_; refine (p31 hl (x := 0) (by omega) (by omega)).mono ?_; rintro x1 H1 ⟨rfl, ts, y1, e2, rfl, hy1, hy1l, hn1, hk1, hc1⟩; refine tk 7 ?_; refine dn ?_)
    | refine ru ?_
    | (refine awp_if rfl (fun hb => ?_) (fun hb => ?_) <;> (try simp at hb) <;> try (exfalso; omega))
    | fail
  · exact ⟨Gr.refl _, .tuple [Tr.none.av, .int .i64 a1, .int .i64 e1], by simp [Tr.av], .none, a1, e1, rfl, trivial, by simp [Tr.cnt]⟩
  obtain ⟨y, rfl⟩ : ∃ y : Nat, y1 = y := ⟨y1.toNat, by omega⟩
  have hln := hl.1
  have hne : (Tr.node 80 0 [] [] ts).neat := neatN (by simp) (by omega) hn1
  have hc67 : (Tr.node 80 0 [] [] ts).cnt ≤ 67108864 := by simp only [Tr.cnt]; omega
  have hcn : (Tr.node 80 0 [] [] ts).cnt ≤ 2 * s.length + 1 := by simp only [Tr.cnt]; omega
  repeat' first
    | refine aSq ?_ | refine aRt ?_ | refine aSk ?_ | refine tN ?_ | refine tR ?_
    | (refine rg 5 ?_; refine tk 2 ?_; (first | (refine te (fun hb => ?_) (fun hb => ?_) <;> (try simp at hb) <;> try (exfalso; omega)) | (refine tk 1 ?_)); all_goals (refine tk 5 ?_; refine dn ?_))
    | (refine dr 9 [(0, true), (1, true), (2, true), (3, true), (4, true), (5, true), (6, true), (7, true), (8, true)] [] ?_; refine dl ?_)
    | (refine rg 11 ?_; refine tk 1 ?_; refine fc en32 ?_; refine SF.then (sf32 (l := ts)) ?_; refine tk 1 ?_; refine dn ?_)
    | (refine rg 12 ?_; refine tk 1 ?_; refine fc en33 ?_; refine SF.then (sf33 _ _ _ (Nat.le_refl _) hc67 (Tr.slim_of_neat _ hne)) ?_; refine tk 1 ?_; refine dn ?_)
    | (refine rg 14 ?_; refine tk 1 ?_; refine fc en34 ?_; refine SF.then (sf34 _ _ _ (Nat.le_refl _) hc67 (Tr.slim_of_neat _ hne)) ?_; refine tk 1 ?_; refine dn ?_)
    | refine ru ?_
    | (refine awp_if rfl (fun hb => ?_) (fun hb => ?_) <;> (try simp at hb) <;> try (exfalso; omega))
    | fail
  all_goals first
    | exact src_none (Gr.refl _) rfl rfl rfl
    | exact ⟨Gr.refl _, .tuple [(Tr.node 80 0 [] [] ts).av, .int .i64 0, .int .i64 0], by simp, _, 0, 0, rfl, hne, hcn⟩
    | fail
theorem sf6 {s : Str} {H : Hp} (hs : s.length ≤ 9223372036854775807) : SF Tryz.prog W0 6 [.str s] H fun r H' => H' = H ∧ ∃ t : Tr, r = t.av ∧ t.neat ∧ t.cnt ≤ 1401 := by
  refine SF.pureLe (sf_start [2] 17 Tryz.func6 rfl rfl rfl (by decide) (by simp) ?_)
  obtain ⟨m, hmm⟩ : ∃ m : Nat, (if (700 : Int) < (s.length : Int) then (700 : Int) else s.length) = m := ⟨min s.length 700, by split <;> omega⟩
  have hm7 : m ≤ 700 ∧ m ≤ s.length := by split at hmm <;> omega
  have hm : (s.take m).length ≤ 700 := by rw [List.length_take]; omega
  repeat' first
    | refine aSq ?_ | refine aRt ?_
    | (refine rg 1 ?_; refine tk 5 ?_ (by simp (disch := omega) [hmm, small_if, small_ifI]; with_reducible rfl); refine fc en19 ?_; refine (sf19 (by omega)).mono ?_; rintro x1 H1 ⟨rfl, t, a1, e1, rfl, hn, hc⟩; refine tk 7 ?_ (by simp (disch := omega) [hmm, small_if, small_ifI]; with_reducible rfl); refine dn ?_)
    | (refine ru ?_ (by simp (disch := omega) [hmm, small_if, small_ifI]; with_reducible rfl))
    | fail
  exact ⟨Gr.refl _, t.av, by simp, t, rfl, hn, by omega⟩
end Go.Av
