/-
  Go read by value: lemmas (part 24): D36, D37, D38, D39, D40, D41.
-/
import Derived.Test.YtdeocbficanfaaaGreatDoorX18
import Derived.Test.YtdeocbficanfaaaGreatDoorX23
set_option linter.unusedVariables false
set_option linter.unusedSimpArgs false
set_option linter.unusedSectionVars false
namespace Go.Av
open Go.Proofs
variable {W0 : World}
set_option maxRecDepth 10000
set_option maxHeartbeats 4000000
def InvS (l : List Tok) (own : Own) (x : Int) (H : Hp) (n : Nat) (q : Nat) (st : St) : Prop := ∃ (t : Tr) (z e : Int), (e = 0 → q = 2 * ((l.length : Int) - z).toNat + 1) ∧ (e ≠ 0 → q = 2 * ((l.length : Int) - z).toNat) ∧ x ≤ z ∧ z ≤ l.length ∧ t.neat ∧ (t.cnt : Int) ≤ 2 * (z - x) ∧ (e = 0 → (t.cnt : Int) + 1 ≤ 2 * (z - x)) ∧
  Sub st ⟨n, [(0, .sl 4 (toks l) own), (1, .int .i64 z), (7, t.av), (8, .int .i64 e)], H⟩
theorem invS_step {l : List Tok} {own : Own} {x : Int} {H : Hp} {n q : Nat} {e y e' : Int} (t : Tr) {z : Int} {st : St}
    (hq : e = 0 → q = 2 * ((l.length : Int) - z).toNat + 1) (he : e = 0) (h1 : z ≤ y) (h1' : e' = 0 → z < y) (h2 : x ≤ y) (h3 : y ≤ l.length) (h4 : t.neat) (h5 : (t.cnt : Int) ≤ 2 * (y - x)) (h6 : e' = 0 → (t.cnt : Int) + 1 ≤ 2 * (y - x))
    (hs : Sub st ⟨n, [(0, .sl 4 (toks l) own), (1, .int .i64 y), (7, t.av), (8, .int .i64 e')], H⟩) : ∃ j, j < q ∧ InvS l own x H n j st := by
  have hq := hq he
  rcases Int.decEq e' 0 with hn | hp
  · exact ⟨2 * ((l.length : Int) - y).toNat, by omega, t, y, e', fun h => absurd h hn, fun _ => rfl, h2, h3, h4, h5, h6, hs⟩
  · have := h1' hp
    exact ⟨2 * ((l.length : Int) - y).toNat + 1, by omega, t, y, e', fun _ => rfl, fun h => absurd hp h, h2, h3, h4, h5, h6, hs⟩
theorem p229 {l : List Tok} {N : Int} (hl : TokOKs l) (A : PT W0 230 l N) : PT W0 229 l N := by
  intro own x H hx hx2 hN
  have hln := hl.1
  refine SF.pureLe (sf_start [4, 5, 6] 42 Tryz.func229 rfl rfl rfl (by decide) (by simp) ?_)
  repeat' first
    | refine aSq ?_ | refine aBl ?_
    | (refine rg 1 ?_; refine tk 2 ?_; refine fc en230 ?_; refine (A own _ _ (by omega) (by omega) (by omega)).mono ?_; rintro r H1 ⟨rfl, t1, y1, e1, rfl, hy1, hy1l, hn1, hc1, hd1⟩; refine tk 7 ?_; refine dn ?_)
    | refine ru ?_
    | fail
  refine awp_loop_inv (InvS l own x H1 42) (if e1 = 0 then 2 * ((l.length : Int) - y1).toNat + 1 else 2 * ((l.length : Int) - y1).toNat)
    ⟨t1, y1, e1, fun h => by rw [if_pos h], fun h => by rw [if_neg h], hy1, hy1l, hn1, hc1, hd1, rfl, rfl, only_cons (by simp) (only_cons (by simp) (only_cons (by simp) (only_cons (by simp) only_nil)))⟩ ?_
  clear hy1 hy1l hn1 hc1 hd1
  rintro q st ⟨t, z, e, hq, hq', hz, hz2, hn0, hc0, hd0, hs2⟩
  refine awp_sub hs2 ?_
  clear hs2 st
  repeat' first
    | refine aSq ?_ | refine aRt ?_ | refine aSk ?_ | refine aEx ?_ | refine aBl ?_ | refine tN ?_
    | (refine rg 2 ?_; refine tk 2 ?_; (first | (refine te (fun hb => ?_) (fun hb => ?_) <;> (try simp at hb) <;> (try (first | have hlt := key_lt hb | skip)) <;> (try (exfalso; omega))) | (refine tk 1 ?_)); all_goals (refine tk 2 ?_; (first | (refine fg en231 ?_; refine (sf231 hl (by omega) hz2).mono ?_; rintro r H2 ⟨rfl, b0, rfl, hb0⟩) | (refine tk 1 ?_)); refine tk 1 ?_; refine dn ?_))
    | (refine rg 3 ?_; refine tk 2 ?_; refine fc en230 ?_; refine (A own _ _ (by omega) (by omega) (by omega)).mono ?_; rintro r H2 ⟨rfl, t2, y2, e2, rfl, hy2, hy2l, hn2, hc2, hd2⟩; refine tk 7 ?_; refine dn ?_)
    | (refine rg 4 ?_; refine tk 3 ?_; refine fc en32 ?_; refine SF.then sf32_2 ?_; refine tk 5 ?_; refine dn ?_)
    | refine ru ?_
    | (refine awp_if rfl (fun hb => ?_) (fun hb => ?_) <;> (try simp at hb) <;> (try (first | have hlt := key_lt hb | skip)) <;> (try (exfalso; omega)))
    | refine inN ?_
  all_goals first
    | (simp [retQ]; first | exact ⟨_, .refl _, resT t z e hz hz2 hn0 hc0 hd0⟩ | exact ⟨(Gr.refl _).obj _, _, .refl _, resT t z e hz hz2 hn0 hc0 hd0⟩)
    | exact invS_step (y := y2) (e' := e2) (.node 25 0 [] [] [t, t2]) hq (by assumption) (by omega) (by omega) (by omega) (by omega) (neat2 hn0 hn2) (by simp only [Tr.cnt, Tr.cnts]; omega) (by simp only [Tr.cnt, Tr.cnts]; omega) ⟨rfl, rfl, only_cons (by simp) (only_cons (by simp) (only_cons (by simp) (only_cons (by simp) only_nil)))⟩
theorem p228 {l : List Tok} {N : Int} (hl : TokOKs l) (A : PT W0 229 l N) : PT W0 228 l N := by
  intro own x H hx hx2 hN
  have hln := hl.1
  refine SF.pureLe (sf_start [4, 5, 6] 42 Tryz.func228 rfl rfl rfl (by decide) (by simp) ?_)
  repeat' first
    | refine aSq ?_ | refine aBl ?_
    | (refine rg 1 ?_; refine tk 2 ?_; refine fc en229 ?_; refine (A own _ _ (by omega) (by omega) (by omega)).mono ?_; rintro r H1 ⟨rfl, t1, y1, e1, rfl, hy1, hy1l, hn1, hc1, hd1⟩; refine tk 7 ?_; refine dn ?_)
    | refine ru ?_
    | fail
  refine awp_loop_inv (InvS l own x H1 42) (if e1 = 0 then 2 * ((l.length : Int) - y1).toNat + 1 else 2 * ((l.length : Int) - y1).toNat)
    ⟨t1, y1, e1, fun h => by rw [if_pos h], fun h => by rw [if_neg h], hy1, hy1l, hn1, hc1, hd1, rfl, rfl, only_cons (by simp) (only_cons (by simp) (only_cons (by simp) (only_cons (by simp) only_nil)))⟩ ?_
  clear hy1 hy1l hn1 hc1 hd1
  rintro q st ⟨t, z, e, hq, hq', hz, hz2, hn0, hc0, hd0, hs2⟩
  refine awp_sub hs2 ?_
  clear hs2 st
  repeat' first
    | refine aSq ?_ | refine aRt ?_ | refine aSk ?_ | refine aEx ?_ | refine aBl ?_ | refine tN ?_
    | (refine rg 2 ?_; refine tk 2 ?_; (first | (refine te (fun hb => ?_) (fun hb => ?_) <;> (try simp at hb) <;> (try (first | have hlt := key_lt hb | skip)) <;> (try (exfalso; omega))) | (refine tk 1 ?_)); all_goals (refine tk 2 ?_; (first | (refine fg en138 ?_; refine SF.then (sfk (by omega)) ?_) | (refine tk 1 ?_)); refine tk 1 ?_; refine dn ?_))
    | (refine rg 3 ?_; refine tk 3 ?_; refine fc en229 ?_; refine (A own _ _ (by omega) (by omega) (by omega)).mono ?_; rintro r H2 ⟨rfl, t2, y2, e2, rfl, hy2, hy2l, hn2, hc2, hd2⟩; refine tk 7 ?_; refine dn ?_)
    | (refine rg 4 ?_; refine tk 2 ?_; refine fc en227 ?_; refine SF.then sf227 ?_; refine tk 5 ?_; refine dn ?_)
    | refine ru ?_
    | (refine awp_if rfl (fun hb => ?_) (fun hb => ?_) <;> (try simp at hb) <;> (try (first | have hlt := key_lt hb | skip)) <;> (try (exfalso; omega)))
    | refine inN ?_
  all_goals first
    | (simp [retQ]; first | exact ⟨_, .refl _, resT t z e hz hz2 hn0 hc0 hd0⟩ | exact ⟨(Gr.refl _).obj _, _, .refl _, resT t z e hz hz2 hn0 hc0 hd0⟩)
    | exact invS_step (y := y2) (e' := e2) (.node 31 3 [] [] [t, t2]) hq (by assumption) (by omega) (by omega) (by omega) (by omega) (neat2 hn0 hn2) (by simp only [Tr.cnt, Tr.cnts]; omega) (by simp only [Tr.cnt, Tr.cnts]; omega) ⟨rfl, rfl, only_cons (by simp) (only_cons (by simp) (only_cons (by simp) (only_cons (by simp) only_nil)))⟩
theorem p226 {l : List Tok} {N : Int} (hl : TokOKs l) (A : PT W0 228 l N) : PT W0 226 l N := by
  intro own x H hx hx2 hN
  have hln := hl.1
  refine SF.pureLe (sf_start [4, 5, 6] 52 Tryz.func226 rfl rfl rfl (by decide) (by simp) ?_)
  repeat' first
    | refine aSq ?_ | refine aBl ?_
    | (refine rg 1 ?_; refine tk 2 ?_; refine fc en228 ?_; refine (A own _ _ (by omega) (by omega) (by omega)).mono ?_; rintro r H1 ⟨rfl, t1, y1, e1, rfl, hy1, hy1l, hn1, hc1, hd1⟩; refine tk 7 ?_; refine dn ?_)
    | refine ru ?_
    | fail
  refine awp_loop_inv (InvS l own x H1 52) (if e1 = 0 then 2 * ((l.length : Int) - y1).toNat + 1 else 2 * ((l.length : Int) - y1).toNat)
    ⟨t1, y1, e1, fun h => by rw [if_pos h], fun h => by rw [if_neg h], hy1, hy1l, hn1, hc1, hd1, rfl, rfl, only_cons (by simp) (only_cons (by simp) (only_cons (by simp) (only_cons (by simp) only_nil)))⟩ ?_
  clear hy1 hy1l hn1 hc1 hd1
  rintro q st ⟨t, z, e, hq, hq', hz, hz2, hn0, hc0, hd0, hs2⟩
  refine awp_sub hs2 ?_
  clear hs2 st
  repeat' first
    | refine aSq ?_ | refine aRt ?_ | refine aSk ?_ | refine aEx ?_ | refine aBl ?_ | refine tN ?_
    | (refine rg 2 ?_; refine tk 2 ?_; (first | (refine te (fun hb => ?_) (fun hb => ?_) <;> (try simp at hb) <;> (try (first | have hlt := key_lt hb | skip)) <;> (try (exfalso; omega))) | (refine tk 1 ?_)); all_goals (refine tk 2 ?_; (first | (refine fg en138 ?_; refine SF.then (sfk (by omega)) ?_) | (refine tk 1 ?_)); (first | (refine te (fun hb => ?_) (fun hb => ?_) <;> (try simp at hb) <;> (try (first | have hlt := key_lt hb | skip)) <;> (try (exfalso; omega))) | (refine tk 1 ?_)); all_goals (refine tk 2 ?_; (first | (refine fg en138 ?_; refine SF.then (sfk (by omega)) ?_) | (refine tk 1 ?_)); refine tk 2 ?_; refine dn ?_)))
    | (refine rg 4 ?_; refine tk 2 ?_; refine fc en138 ?_; refine SF.then (sfk (by omega)) ?_; refine dn ?_)
    | (refine rg 6 ?_; refine tk 3 ?_; refine fc en228 ?_; refine (A own _ _ (by omega) (by omega) (by omega)).mono ?_; rintro r H2 ⟨rfl, t2, y2, e2, rfl, hy2, hy2l, hn2, hc2, hd2⟩; refine tk 7 ?_; refine dn ?_)
    | (refine rg 7 ?_; refine tk 3 ?_; refine fc en227 ?_; refine SF.then sf227 ?_; refine tk 5 ?_; refine dn ?_)
    | refine ru ?_
    | (refine awp_if rfl (fun hb => ?_) (fun hb => ?_) <;> (try simp at hb) <;> (try (first | have hlt := key_lt hb | skip)) <;> (try (exfalso; omega)))
    | refine inN ?_
  all_goals first
    | (simp [retQ]; first | exact ⟨_, .refl _, resT t z e hz hz2 hn0 hc0 hd0⟩ | exact ⟨(Gr.refl _).obj _, _, .refl _, resT t z e hz hz2 hn0 hc0 hd0⟩)
    | exact invS_step (y := y2) (e' := e2) (.node 31 2 [] [] [t, t2]) hq (by assumption) (by omega) (by omega) (by omega) (by omega) (neat2 hn0 hn2) (by simp only [Tr.cnt, Tr.cnts]; omega) (by simp only [Tr.cnt, Tr.cnts]; omega) ⟨rfl, rfl, only_cons (by simp) (only_cons (by simp) (only_cons (.refl _) (only_cons (by simp) only_nil)))⟩
    | exact invS_step (y := y2) (e' := e2) (.node 31 1 [] [] [t, t2]) hq (by assumption) (by omega) (by omega) (by omega) (by omega) (neat2 hn0 hn2) (by simp only [Tr.cnt, Tr.cnts]; omega) (by simp only [Tr.cnt, Tr.cnts]; omega) ⟨rfl, rfl, only_cons (by simp) (only_cons (by simp) (only_cons (.refl _) (only_cons (by simp) only_nil)))⟩
end Go.Av
namespace Go.Av
open Go.Proofs
variable {W0 : World}
set_option maxRecDepth 10000
set_option maxHeartbeats 4000000
theorem p222 {l : List Tok} {N : Int} (hl : TokOKs l) (A : PT W0 226 l N) : PT W0 222 l N := by
  intro own x H hx hx2 hN
  have hln := hl.1
  refine SF.pureLe (sf_start [4, 5, 6] 46 Tryz.func222 rfl rfl rfl (by decide) (by simp) ?_)
  repeat' first
    | refine aSq ?_ | refine aRt ?_ | refine aSk ?_ | refine tN ?_ | refine tR ?_
    | (refine rg 1 ?_; refine tk 2 ?_; refine fc en226 ?_; (first | (refine (A own x _ (by omega) (by omega) (by omega)).mono ?_; rintro r H1 ⟨rfl, t1, y1, e1, rfl, hy1, hy1l, hn1, hc1, hd1⟩) | (refine (A own _ _ (by omega) (by omega) (by omega)).mono ?_; rintro r H2 ⟨rfl, t2, y2, e2, rfl, hy2, hy2l, hn2, hc2, hd2⟩)); refine tk 7 ?_; refine dn ?_)
    | (refine rg 5 ?_; refine tk 2 ?_; refine fc en138 ?_; refine SF.then (sfk (by omega)) ?_; refine dn ?_)
    | (refine rg 7 ?_; refine tk 2 ?_; refine fc en138 ?_; refine SF.then (sfk (by omega)) ?_; refine dn ?_)
    | (refine rg 11 ?_; refine tk 3 ?_; refine fc en226 ?_; (first | (refine (A own x _ (by omega) (by omega) (by omega)).mono ?_; rintro r H1 ⟨rfl, t1, y1, e1, rfl, hy1, hy1l, hn1, hc1, hd1⟩) | (refine (A own _ _ (by omega) (by omega) (by omega)).mono ?_; rintro r H2 ⟨rfl, t2, y2, e2, rfl, hy2, hy2l, hn2, hc2, hd2⟩)); refine tk 7 ?_; refine dn ?_)
    | (refine rg 12 ?_; refine tk 3 ?_; refine fc en227 ?_; refine SF.then sf227 ?_; refine tk 5 ?_; refine dn ?_)
    | refine ru ?_
    | (refine awp_if rfl (fun hb => ?_) (fun hb => ?_) <;> (try simp at hb) <;> (try (first | have hlt := key_lt hb | skip)) <;> (try (exfalso; omega)))
    | fail
  all_goals simp [retQ]
  all_goals first
    | exact ⟨_, .refl _, resN (by omega) (by omega) (by omega)⟩
    | exact ⟨_, .refl _, resT t1 _ _ (by omega) (by omega) (by assumption) (by omega) (by omega)⟩
    | exact ⟨_, .refl _, resT (.node 31 _ [] [] [t1, t2]) _ _ (by omega) (by omega) (neat2 hn1 hn2) (by simp only [Tr.cnt, Tr.cnts]; omega) (by simp only [Tr.cnt, Tr.cnts]; omega)⟩
theorem p211 {l : List Tok} {N : Int} (hl : TokOKs l) (C : PT W0 222 l N) (E : PT W0 211 l (N - 1)) : PT W0 211 l N := by
  intro own x H hx hx2 hN
  have hln := hl.1
  refine SF.pureLe (sf_start [4, 5, 6] 200 Tryz.func211 rfl rfl rfl (by decide) (by simp) ?_)
  repeat' first
    | refine aSq ?_ | refine aRt ?_ | refine aSk ?_ | refine tN ?_ | refine tR ?_
    | (refine rg 1 ?_; refine tk 2 ?_; refine fc en138 ?_; refine SF.then (sfk (by omega)) ?_; refine dn ?_)
    | (refine rg 2 ?_; refine tk 3 ?_; refine fc en217 ?_; refine (p217 hl E own _ _ (by omega) (by omega) (by omega)).mono ?_; rintro r H1 ⟨rfl, t1, y1, e1, rfl, hy1, hy1l, hn1, hc1, hd1⟩; refine tk 6 ?_; refine dn ?_)
    | (refine rg 3 ?_; refine tk 2 ?_; refine fc en138 ?_; refine SF.then (sfk (by omega)) ?_; refine dn ?_)
    | (refine rg 4 ?_; refine tk 4 ?_; refine fc en218 ?_; refine (p218_1 hl (by omega) (by omega)).mono ?_; rintro r H3 ⟨rfl, s3, y3, e3, rfl, hs3, hy3, hy3l, hd3⟩; refine tk 7 ?_; refine dn ?_)
    | (refine rg 7 ?_; refine tk 3 ?_; refine fc en219 ?_; refine (p219_1 hl E (by omega) (by omega) (by omega)).mono ?_; rintro r H4 ⟨rfl, t4, y4, e4, rfl, hy4, hy4l, hn4, hc4, hd4⟩; refine tk 7 ?_; refine dn ?_)
    | (refine rg 10 ?_; refine tk 3 ?_; refine fc en219 ?_; refine (p219_1 hl E (by omega) (by omega) (by omega)).mono ?_; rintro r H4 ⟨rfl, t4, y4, e4, rfl, hy4, hy4l, hn4, hc4, hd4⟩; refine tk 7 ?_; refine dn ?_)
    | (refine rg 11 ?_; refine tk 4 ?_; refine fc en32 ?_; (first | refine SF.then sf32_3 ?_ | refine SF.then sf32_2 ?_); refine tk 5 ?_; refine dn ?_)
    | (refine rg 12 ?_; refine tk 2 ?_; refine fc en138 ?_; refine SF.then (sfk (by omega)) ?_; refine dn ?_)
    | (refine rg 13 ?_; refine tk 4 ?_; refine fc en219 ?_; refine (p219_1 hl E (by omega) (by omega) (by omega)).mono ?_; rintro r H4 ⟨rfl, t4, y4, e4, rfl, hy4, hy4l, hn4, hc4, hd4⟩; refine tk 7 ?_; refine dn ?_)
    | (refine rg 16 ?_; refine tk 3 ?_; refine fc en219 ?_; refine (p219_1 hl E (by omega) (by omega) (by omega)).mono ?_; rintro r H4 ⟨rfl, t4, y4, e4, rfl, hy4, hy4l, hn4, hc4, hd4⟩; refine tk 7 ?_; refine dn ?_)
    | (refine rg 19 ?_; refine tk 2 ?_; refine fc en211 ?_; refine (E own _ _ (by omega) (by omega) (by omega)).mono ?_; rintro r H7 ⟨rfl, t7, y7, e7, rfl, hy7, hy7l, hn7, hc7, hd7⟩; refine tk 7 ?_; refine dn ?_)
    | (refine rg 20 ?_; refine tk 4 ?_; refine fc en32 ?_; (first | refine SF.then sf32_3 ?_ | refine SF.then sf32_2 ?_); refine tk 5 ?_; refine dn ?_)
    | (refine rg 21 ?_; refine tk 2 ?_; refine fc en138 ?_; refine SF.then (sfk (by omega)) ?_; refine dn ?_)
    | (refine rg 22 ?_; refine tk 4 ?_; refine fc en219 ?_; refine (p219_1 hl E (by omega) (by omega) (by omega)).mono ?_; rintro r H4 ⟨rfl, t4, y4, e4, rfl, hy4, hy4l, hn4, hc4, hd4⟩; refine tk 7 ?_; refine dn ?_)
    | (refine rg 25 ?_; refine tk 2 ?_; refine fc en220 ?_; refine (p220 (N := N) hl E own _ _ (by omega) (by omega) (by omega)).mono ?_; rintro r H6 ⟨rfl, ts, y6, e6, rfl, hy6, hy6l, hn6, hk6, hc6⟩; refine tk 7 ?_; refine dn ?_)
    | (refine rg 26 ?_; refine aops_take 3 (mu := mu0) tab_ok (by simp; rfl) ?_; obtain ⟨v9, H9, e9, a9, g9, o9⟩ := (App.capped H6 H6 1 (Tr.avs [t4])).append (T := tab) (Gr.refl _) (x := .sl 1 (Tr.avs ts) .shut) (fs := Tr.avs ts) (t := 41) (e := 22) tab41 tab22 rfl (by decide) (by simp) (avs_ok _) (by simp; omega); simp only [Tr.avs, List.cons_append, List.nil_append] at e9; refine aops_take 1 (mu := mu0) tab_ok (by simp [e9]; rfl) ?_; refine fc en32 ?_; refine SF.then (sf32_app (ts := t4 :: ts) a9) ?_; refine aops_take 5 (mu := mu0) tab_ok (by simp; rfl) ?_; refine dn ?_)
    | (refine rg 27 ?_; refine tk 2 ?_; refine fc en138 ?_; refine SF.then (sfk (by omega)) ?_; refine dn ?_)
    | (refine rg 28 ?_; refine tk 4 ?_; refine fc en219 ?_; refine (p219_1 hl E (by omega) (by omega) (by omega)).mono ?_; rintro r H4 ⟨rfl, t4, y4, e4, rfl, hy4, hy4l, hn4, hc4, hd4⟩; refine tk 7 ?_; refine dn ?_)
    | (refine rg 31 ?_; refine tk 3 ?_; refine fc en221 ?_; refine (p221_1 hl (by omega) (by omega)).mono ?_; rintro r H5 ⟨rfl, t5, y5, e5, rfl, hy5, hy5l, hn5, hc5, hd5⟩; refine tk 7 ?_; refine dn ?_)
    | (refine rg 34 ?_; refine tk 2 ?_; refine fc en220 ?_; refine (p220 (N := N) hl E own _ _ (by omega) (by omega) (by omega)).mono ?_; rintro r H6 ⟨rfl, ts, y6, e6, rfl, hy6, hy6l, hn6, hk6, hc6⟩; refine tk 7 ?_; refine dn ?_)
    | (refine rg 35 ?_; refine aops_take 4 (mu := mu0) tab_ok (by simp; rfl) ?_; obtain ⟨v9, H9, e9, a9, g9, o9⟩ := (App.capped H6 H6 1 (Tr.avs [t4, t5])).append (T := tab) (Gr.refl _) (x := .sl 1 (Tr.avs ts) .shut) (fs := Tr.avs ts) (t := 41) (e := 22) tab41 tab22 rfl (by decide) (by simp) (avs_ok _) (by simp; omega); simp only [Tr.avs, List.cons_append, List.nil_append] at e9; refine aops_take 1 (mu := mu0) tab_ok (by simp [e9]; rfl) ?_; refine fc en32 ?_; refine SF.then (sf32_app (ts := t4 :: t5 :: ts) a9) ?_; refine aops_take 5 (mu := mu0) tab_ok (by simp; rfl) ?_; refine dn ?_)
    | (refine rg 36 ?_; refine tk 2 ?_; refine fc en222 ?_; refine (C own _ _ (by omega) (by omega) (by omega)).mono ?_; rintro r H8 ⟨rfl, t8, y8, e8, rfl, hy8, hy8l, hn8, hc8, hd8⟩; refine tk 6 ?_; refine dn ?_)
    | refine ru ?_
    | (refine awp_if rfl (fun hb => ?_) (fun hb => ?_) <;> (try simp at hb) <;> (try (first | have hlt := key_lt hb | skip)) <;> (try (exfalso; omega)))
    | fail
  all_goals simp [retQ]
  all_goals first
    | exact ⟨_, .refl _, resN (by omega) (by omega) (by omega)⟩
    | exact ⟨_, .refl _, resT _ _ _ (by omega) (by omega) (by assumption) (by omega) (by omega)⟩
    | exact ⟨_, .refl _, resT _ _ _ (by omega) (by omega) (neatN (by first | assumption | simp) (by simp) (by first | exact ⟨by assumption, by assumption, trivial⟩ | exact ⟨by assumption, by assumption, by assumption, trivial⟩)) (by simp only [Tr.cnt, Tr.cnts]; omega) (by simp only [Tr.cnt, Tr.cnts]; omega)⟩
    | exact ⟨g9, _, .refl _, resT (.node _ _ [] [] (t4 :: ts)) _ _ (by omega) (by omega) (neatN (by simp) (by simp; omega) ⟨hn4, hn6⟩) (by simp only [Tr.cnt, Tr.cnts]; omega) (by simp only [Tr.cnt, Tr.cnts]; omega)⟩
    | exact ⟨g9, _, .refl _, resT (.node _ _ [] [] (t4 :: t5 :: ts)) _ _ (by omega) (by omega) (neatN (by simp) (by simp; omega) ⟨hn4, hn5, hn6⟩) (by simp only [Tr.cnt, Tr.cnts]; omega) (by simp only [Tr.cnt, Tr.cnts]; omega)⟩
end Go.Av
namespace Go.Av
open Go.Proofs
variable {W0 : World}
set_option maxRecDepth 10000
set_option maxHeartbeats 4000000
theorem p_exprs {l : List Tok} (hl : TokOKs l) : ∀ (N : Nat), PT W0 230 l (N - 1) ∧ PT W0 211 l (N - 1)
  | 0 => by
    refine ⟨?_, ?_⟩
    all_goals
      (intro own x H h1 h2 h3
       simp at h3
       omega)
  | N + 1 => by
    have ih := p_exprs hl N
    have e : ((N + 1 : Nat) : Int) - 1 = N := by omega
    rw [e]
    have a := p230 (N := N) hl ih.1 ih.2
    exact ⟨a, p211 hl (p222 hl (p226 hl (p228 hl (p229 hl a)))) ih.2⟩
theorem p211a {l : List Tok} (hl : TokOKs l) : PTA W0 211 l := PT.all fun N => (p_exprs hl N).2
theorem p196 {l : List Tok} (hl : TokOKs l) : PTA W0 196 l := by
  intro N own x H hx hx2 hN
  have hln := hl.1
  refine SF.pureLe (sf_start [4, 5, 6] 31 Tryz.func196 rfl rfl rfl (by decide) (by simp) ?_)
  repeat' first
    | refine aSq ?_ | refine aRt ?_ | refine aSk ?_ | refine tN ?_ | refine tR ?_
    | (refine rg 1 ?_; refine tk 2 ?_; (first | (refine te (fun hb => ?_) (fun hb => ?_) <;> (try simp at hb) <;> try (exfalso; omega)) | (refine tk 1 ?_)); all_goals (refine tk 5 ?_; refine dn ?_))
    | (refine rg 3 ?_; refine tk 2 ?_; refine fc en211 ?_; refine (p211a hl N own _ _ (by omega) (by omega) (by omega)).mono ?_; rintro r H1 ⟨rfl, t2, y2, e2, rfl, hy2, hy2l, hn2, hc2, hd2⟩; refine tk 7 ?_; refine dn ?_)
    | refine ru ?_
    | (refine awp_if rfl (fun hb => ?_) (fun hb => ?_) <;> (try simp at hb) <;> try (exfalso; omega))
    | fail
  all_goals simp [retQ]
  all_goals first
    | exact ⟨_, .refl _, resN (by omega) (by omega) (by omega)⟩
    | exact ⟨_, .refl _, resT _ _ _ (by omega) (by omega) (by assumption) (by omega) (by omega)⟩
structure RRow where
  word : Str
  kind : Int
  form : Str
def RRow.av (r : RRow) : List AV := [.sl 1 [[.str r.word]] .capped, .int .i64 r.kind, .str r.form]
def RRow.sh (r : RRow) : List AV := [.sl 1 [[.str r.word]] .shut, .int .i64 r.kind, .str r.form]
def declR : List RRow := [⟨[118, 97, 108], 70, [110, 58, 116, 61, 101]⟩, ⟨[118, 97, 108], 70, [110, 61, 101]⟩, ⟨[116, 121, 112, 101], 71, [110, 61, 116]⟩, ⟨[100, 97, 116, 97, 116, 121, 112, 101], 72, [110, 61, 99]⟩, ⟨[115, 116, 114, 117, 99, 116, 117, 114, 101], 73, [110, 61, 109]⟩, ⟨[111, 112, 101, 110], 76, [108]⟩, ⟨[105, 110, 99, 108, 117, 100, 101], 77, [108]⟩, ⟨[115, 105, 103, 110, 97, 116, 117, 114, 101], 74, [110, 61, 115]⟩, ⟨[102, 117, 110, 99, 116, 111, 114], 75, [110, 40, 78, 58, 115, 41, 61, 109]⟩]
def specR : List RRow := [⟨[118, 97, 108], 60, [110, 58, 116]⟩, ⟨[116, 121, 112, 101], 61, [110, 61, 116]⟩, ⟨[116, 121, 112, 101], 61, [110]⟩, ⟨[100, 97, 116, 97, 116, 121, 112, 101], 62, [110, 61, 99]⟩, ⟨[115, 116, 114, 117, 99, 116, 117, 114, 101], 63, [110, 58, 115]⟩, ⟨[105, 110, 99, 108, 117, 100, 101], 64, [115]⟩, ⟨[115, 104, 97, 114, 105, 110, 103], 65, [84, 108, 61, 76]⟩]
theorem RRow.le (n m : Nat) : ∀ R : List RRow, LeLL (clnLL n m (R.map RRow.av)) (R.map RRow.sh)
  | [] => by simp [clnLL]
  | r :: R => by
    simp only [List.map_cons, clnLL]
    exact .cons (by simp [RRow.av, RRow.sh]) (RRow.le n m R)
theorem sf57 {H : Hp} : SF Tryz.prog W0 57 [] H fun r H' => H' = H ∧ r = .sl 3 (declR.map RRow.sh) .shut := by
  refine SF.pureLe (sf_start [0] 20 Tryz.func57 rfl rfl rfl (by decide) (by simp) ?_)
  repeat' first
    | refine aSq ?_ | refine aRt ?_
    | (refine awp_runK (id := 1) (mu := mu0) 0 (.sl 3 (declR.map RRow.av) .capped) tab_ok (by kernel_rfl) ?_)
    | refine ru ?_
    | fail
  exact ⟨Gr.refl _, _, by simp; exact .sl (RRow.le _ _ _) (.inr rfl), rfl⟩
theorem sf224 {H : Hp} : SF Tryz.prog W0 224 [] H fun r H' => H' = H ∧ r = .sl 3 (specR.map RRow.sh) .shut := by
  refine SF.pureLe (sf_start [0] 16 Tryz.func224 rfl rfl rfl (by decide) (by simp) ?_)
  repeat' first
    | refine aSq ?_ | refine aRt ?_
    | (refine awp_runK (id := 1) (mu := mu0) 0 (.sl 3 (specR.map RRow.av) .capped) tab_ok (by kernel_rfl) ?_)
    | refine ru ?_
    | fail
  exact ⟨Gr.refl _, _, by simp; exact .sl (RRow.le _ _ _) (.inr rfl), rfl⟩
theorem sf173 {c : UInt8} {H : Hp} : SF Tryz.prog W0 173 [.int .u8 c.toNat] H fun r H' => H' = H ∧ ∃ s, r = .str s := by
  refine SF.pureLe (sf_start [2] 8 Tryz.func173 rfl rfl rfl (by decide) (by simp) ?_)
  repeat' first
    | refine aSq ?_ | refine aRt ?_ | refine aSk ?_ | refine tN ?_ | refine tR ?_
    | (refine ru ?_ (by simp (disch := omega) [convA, nums]; with_reducible rfl))
    | (refine awp_if rfl (fun hb => ?_) (fun hb => ?_) <;> (try simp at hb) <;> try (exfalso; omega))
    | fail
  all_goals simp [retQ]
  all_goals exact ⟨_, .refl _, _, rfl⟩
theorem bool_or2 (b : Bool) : AV.bool b = .bool false ∨ AV.bool b = .bool true := by cases b <;> simp
theorem sf139 {l : List Tok} {own o2 : Own} {x : Int} {w f : Str} {k : Int} {H : Hp} (hl : TokOKs l) (hx : 0 ≤ x) (hx2 : x ≤ l.length) :
    SF Tryz.prog W0 139 [.sl 4 (toks l) own, .int .i64 x, .agg [.sl 1 [[.str w]] o2, .int .i64 k, .str f]] H fun r H' => H' = H ∧ ∃ b : Bool, r = .bool b := by
  have hln := hl.1
  refine SF.pureLe (sf_start [6] 26 Tryz.func139 rfl rfl rfl (by decide) (by simp) ?_)
  repeat' first
    | refine aSq ?_ | refine aRt ?_ | refine aSk ?_ | refine tN ?_ | refine tR ?_
    | (refine rg 1 ?_; refine tk 3 ?_; (first | (refine te (fun hb => ?_) (fun hb => ?_) <;> (try simp at hb) <;> try (exfalso; omega)) | (refine tk 1 ?_)); all_goals (refine tk 4 ?_; refine dn ?_))
    | (refine rg 2 ?_; refine tk 3 ?_; refine fc en138 ?_; refine SF.then (sfk (by omega)) ?_; refine tk 1 ?_; refine dn ?_)
    | (refine rg 4 ?_; refine tk 3 ?_; refine fc en138 ?_; refine SF.then (sfk (by omega)) ?_; refine tk 1 ?_; refine dn ?_)
    | refine ru ?_
    | (refine awp_if rfl (fun hb => ?_) (fun hb => ?_) <;> (try simp at hb) <;> try (exfalso; omega))
    | fail
  all_goals simp [retQ]
  all_goals exact ⟨_, .refl _, bool_or2 _⟩
end Go.Av
namespace Go.Av
open Go.Proofs
variable {W0 : World}
set_option maxRecDepth 10000
set_option maxHeartbeats 4000000
theorem set_set {α : Type} {l m : List α} {r : Nat} {a b : α} (h : l = m.set r a) : l.set r b = m.set r b := by rw [h, set_twice]
def PP (W0 : World) (l : List Tok) (N : Int) : Prop := ∀ (own : Own) (x : Int) (f : Str) (H0 H : Hp) (r : Nat) (k n : Int) (a b : Str) (ts : List Tr) (v : AV),
  0 ≤ x → x ≤ l.length → (l.length : Int) - x ≤ N → f.length ≤ 16 → a.length ≤ 67108863 → b.length ≤ 67108863 → (ts.length : Int) + l.length ≤ 60000000 → Tr.neats ts → Gr H0 H → H0.objs.length ≤ r →
  H.objs[r]? = some (.cells [.int .i64 k, .int .i64 n, .str a, .str b, v]) → App H0 H 1 (Tr.avs ts) v →
  SF Tryz.prog W0 140 [.sl 4 (toks l) own, .int .i64 x, .ref r 0, .str f] H fun res H' => ∃ (y e : Int) (a' b' : Str) (ts' : List Tr) (v' : AV),
    res = .tuple [.int .i64 y, .int .i64 e] ∧ x ≤ y ∧ y ≤ l.length ∧ a'.length ≤ 67108863 ∧ b'.length ≤ 67108863 ∧ Tr.neats ts' ∧ (ts'.length : Int) ≤ ts.length + (y - x) ∧ (Tr.cnts ts' : Int) ≤ Tr.cnts ts + 2 * (y - x) ∧
    H'.objs = H.objs.set r (.cells [.int .i64 k, .int .i64 n, .str a', .str b', v']) ∧ Gr H0 H' ∧ App H0 H' 1 (Tr.avs ts') v'
def InvP (l : List Tok) (own : Own) (x : Int) (f : Str) (H0 H : Hp) (r : Nat) (k n : Int) (ts : List Tr) (q : Nat) (st : St) : Prop := ∃ (i : Nat) (z : Int) (a' b' : Str) (ts' : List Tr) (v' : AV) (Hc : Hp), q = f.length - i ∧ i ≤ f.length ∧ x ≤ z ∧ z ≤ l.length ∧ a'.length ≤ 67108863 ∧ b'.length ≤ 67108863 ∧ Tr.neats ts' ∧ (ts'.length : Int) ≤ ts.length + (z - x) ∧ (Tr.cnts ts' : Int) ≤ Tr.cnts ts + 2 * (z - x) ∧
    Hc.objs = H.objs.set r (.cells [.int .i64 k, .int .i64 n, .str a', .str b', v']) ∧ Gr H0 Hc ∧ App H0 Hc 1 (Tr.avs ts') v' ∧
    Sub st ⟨155, [(0, .sl 4 (toks l) own), (1, .int .i64 z), (2, .ref r 0), (3, .str f), (10, .int .i64 i)], Hc⟩
theorem invP_next {l : List Tok} {own : Own} {x : Int} {f : Str} {H0 H : Hp} {r : Nat} {k n : Int} {ts : List Tr} {i : Nat} {z : Int} {a' b' : Str} {ts' : List Tr} {v' : AV} {Hc : Hp} {st : St} (hi : i < f.length) (h1 : x ≤ z) (h2 : z ≤ l.length) (ha : a'.length ≤ 67108863) (hb : b'.length ≤ 67108863) (hne : Tr.neats ts') (hk : (ts'.length : Int) ≤ ts.length + (z - x)) (hc : (Tr.cnts ts' : Int) ≤ Tr.cnts ts + 2 * (z - x))
    (hob : Hc.objs = H.objs.set r (.cells [.int .i64 k, .int .i64 n, .str a', .str b', v'])) (hg : Gr H0 Hc) (ap : App H0 Hc 1 (Tr.avs ts') v')
    (hs : Sub st ⟨155, [(0, .sl 4 (toks l) own), (1, .int .i64 z), (2, .ref r 0), (3, .str f), (10, .int .i64 (i + 1 : Nat))], Hc⟩) : ∃ j, j < f.length - i ∧ InvP l own x f H0 H r k n ts j st :=
  ⟨f.length - (i + 1), by omega, i + 1, z, a', b', ts', v', Hc, rfl, by omega, h1, h2, ha, hb, hne, hk, hc, hob, hg, ap, hs⟩
theorem part_end {l : List Tok} {x : Int} {H0 H : Hp} {r : Nat} {k n : Int} {ts : List Tr} {z e : Int} {a' b' : Str} {ts' : List Tr} {v' : AV} {Hc : Hp} (hrl : r < H.objs.length) (hr : H0.objs.length ≤ r) (hgH : Gr H0 H) (h1 : x ≤ z) (h2 : z ≤ l.length) (ha : a'.length ≤ 67108863) (hb : b'.length ≤ 67108863) (hne : Tr.neats ts') (hk : (ts'.length : Int) ≤ ts.length + (z - x)) (hc : (Tr.cnts ts' : Int) ≤ Tr.cnts ts + 2 * (z - x))
    (hob : Hc.objs = H.objs.set r (.cells [.int .i64 k, .int .i64 n, .str a', .str b', v'])) (hg : Gr H0 Hc) (ap : App H0 Hc 1 (Tr.avs ts') v') :
    ∃ m, H.hi.length ≤ m ∧ ((H.objs.map (clnO H.objs.length m) = H.objs) → (fun (res : AV) (H' : Hp) => ∃ (y e : Int) (a' b' : Str) (ts' : List Tr) (v' : AV),
    res = .tuple [.int .i64 y, .int .i64 e] ∧ x ≤ y ∧ y ≤ l.length ∧ a'.length ≤ 67108863 ∧ b'.length ≤ 67108863 ∧ Tr.neats ts' ∧ (ts'.length : Int) ≤ ts.length + (y - x) ∧ (Tr.cnts ts' : Int) ≤ Tr.cnts ts + 2 * (y - x) ∧
    H'.objs = H.objs.set r (.cells [.int .i64 k, .int .i64 n, .str a', .str b', v']) ∧ Gr H0 H' ∧ App H0 H' 1 (Tr.avs ts') v') (cln H.objs.length m (.tuple [.int .i64 z, .int .i64 e])) ⟨(Hc.objs.take H.objs.length).map (clnO H.objs.length m), Hc.hi.take m⟩) := by
  refine ⟨max H.hi.length Hc.hi.length, Nat.le_max_left _ _, fun hold => ?_⟩
  have hm : Hc.hi.length ≤ max H.hi.length Hc.hi.length := Nat.le_max_right _ _
  generalize max H.hi.length Hc.hi.length = m at *
  have ht2 : Hc.hi.take m = Hc.hi := List.take_of_length_le hm
  have e1 : (H.objs.set r (.cells [.int .i64 k, .int .i64 n, .str a', .str b', v'])).take H.objs.length = H.objs.set r (.cells [.int .i64 k, .int .i64 n, .str a', .str b', v']) := List.take_of_length_le (by simp)
  have hq := ap.cln H.objs.length m ((Hc.objs.take H.objs.length).map (clnO H.objs.length m)) hm
  rw [Tr.cln_avs] at hq
  refine ⟨z, e, a', b', ts', cln H.objs.length m v', by simp, h1, h2, ha, hb, hne, hk, hc, ?_, ⟨?_, ?_⟩, hq⟩
  · simp only [hob, e1, List.map_set, hold]; simp [clnO, clnL]
  · simp only [hob, e1, List.map_set, hold]
    rw [List.take_set_of_le hr]; exact hgH.objs
  · simp only [ht2]; exact hg.hi
theorem p172 {l : List Tok} {N : Int} (hl : TokOKs l) (M : PT W0 197 l N) (S : PT W0 198 l N) {own : Own} {x : Int} {c : UInt8} {H : Hp} (hx : 0 ≤ x) (hx2 : x ≤ l.length) (hN : (l.length : Int) - x ≤ N) :
    SF Tryz.prog W0 172 [.sl 4 (toks l) own, .int .i64 x, .int .u8 c.toNat] H fun r H' => H' = H ∧ ResT l x r := by
  have hln := hl.1
  refine SF.pureLe (sf_start [6, 7, 8] 39 Tryz.func172 rfl rfl rfl (by decide) (by simp) ?_)
  repeat' first
    | refine aSq ?_ | refine aRt ?_ | refine aSk ?_ | refine tN ?_ | refine tR ?_
    | (refine rg 2 ?_; refine tk 2 ?_; refine fc en195 ?_; refine (p195 hl N own _ _ (by omega) (by omega) (by omega)).mono ?_; rintro r H1 ⟨rfl, t2, y2, e2, rfl, hy2, hy2l, hn2, hc2, hd2⟩; refine tk 6 ?_; refine dn ?_)
    | (refine rg 4 ?_; refine tk 2 ?_; refine fc en196 ?_; refine (p196 hl N own _ _ (by omega) (by omega) (by omega)).mono ?_; rintro r H1 ⟨rfl, t2, y2, e2, rfl, hy2, hy2l, hn2, hc2, hd2⟩; refine tk 6 ?_; refine dn ?_)
    | (refine rg 6 ?_; refine tk 2 ?_; refine fc en197 ?_; refine (M own _ _ (by omega) (by omega) (by omega)).mono ?_; rintro r H1 ⟨rfl, t2, y2, e2, rfl, hy2, hy2l, hn2, hc2, hd2⟩; refine tk 6 ?_; refine dn ?_)
    | (refine rg 7 ?_; refine tk 2 ?_; refine fc en198 ?_; refine (S own _ _ (by omega) (by omega) (by omega)).mono ?_; rintro r H1 ⟨rfl, t2, y2, e2, rfl, hy2, hy2l, hn2, hc2, hd2⟩; refine tk 6 ?_; refine dn ?_)
    | refine ru ?_
    | (refine awp_if rfl (fun hb => ?_) (fun hb => ?_) <;> (try simp at hb) <;> try (exfalso; omega))
    | fail
  all_goals simp [retQ]
  all_goals exact ⟨_, .refl _, resT _ _ _ (by omega) (by omega) (by assumption) (by omega) (by omega)⟩
theorem p140 {l : List Tok} {N : Int} (hl : TokOKs l) (M : PT W0 197 l N) (S : PT W0 198 l N) : PP W0 l N := by
  intro own x f H0 H r k n a b ts v hx hx2 hN hf ha hb hts hne hg hr hob ap
  have hln := hl.1
  have hrl : r < H.objs.length := by
    rcases Nat.lt_or_ge r H.objs.length with q | q
    · exact q
    · simp [List.getElem?_eq_none q] at hob
  refine SF.cut (sf_start [8, 9] 155 Tryz.func140 rfl rfl rfl (by decide) (by simp) ?_)
  repeat' first
    | refine aSq ?_ | refine aBl ?_
    | refine ru ?_
    | fail
  refine awp_loop_inv (InvP l own x f H0 H r k n ts) f.length
    ⟨0, x, a, b, ts, v, H, rfl, by simp, by omega, hx2, ha, hb, hne, by omega, by omega, by rw [set_same hob], hg, ap, rfl, rfl, only_cons (by simp) (only_cons (by simp) (only_cons (by simp) (only_cons (by simp) (only_cons (by simp) only_nil))))⟩ ?_
  clear ha hb hne hob ap
  rintro q st ⟨i, z, a', b', ts', v', Hc, rfl, hi, hz, hz2, ha, hb, hne, hk0, hc0, hob, hgc, ap, hs2⟩
  refine awp_sub hs2 ?_
  clear hs2 st
  have hcr : Hc.objs[r]? = some (.cells [.int .i64 k, .int .i64 n, .str a', .str b', v']) := by rw [hob]; simp [hrl]
  have hvl := ap.okc
  have hap : ∀ (fs : List Tr) (o : Own), ts'.length + fs.length ≤ 67108864 → ∃ v2 H2, appendA tab Hc 41 41 v' (.sl 1 (Tr.avs fs) o) = some (v2, H2) ∧ App H0 H2 1 (Tr.avs ts' ++ Tr.avs fs) v2 ∧ Gr H0 H2 ∧ H2.objs = Hc.objs := fun fs o h =>
    ap.append (T := tab) hgc (x := .sl 1 (Tr.avs fs) o) (fs := Tr.avs fs) (t := 41) (e := 22) tab41 tab22 rfl (by decide) (by simp) (avs_ok _) (by simpa using h)
  repeat' first
    | refine aSq ?_ | refine aRt ?_ | refine aSk ?_ | refine aEx ?_ | refine aBl ?_ | refine tN ?_ | refine tR ?_ | refine iR ?_
    | (refine rg 5 ?_; refine tk 2 ?_ (by simp (disch := omega) [hcr, hvl]; with_reducible rfl); (first | (refine te (hs := (by simp (disch := omega) [hcr, hvl]; with_reducible rfl)) (fun hb => ?_) (fun hb => ?_) <;> (try simp at hb) <;> (try (first | have hlt := key_lt hb | have hlt := name_lt hb | have hlt := long_lt hb | skip)) <;> (try (exfalso; omega))) | (refine tk 1 ?_ (by simp (disch := omega) [hcr, hvl]; with_reducible rfl))); all_goals (refine tk 3 ?_ (by simp (disch := omega) [hcr, hvl]; with_reducible rfl); refine dn ?_))
    | (refine rg 6 ?_; refine tk 2 ?_ (by simp (disch := omega) [hcr, hvl]; with_reducible rfl); refine fc en169 ?_; refine (sf169 hl (x := z) (by omega) (by omega)).mono ?_; rintro r H1 ⟨rfl, s1, rfl, hs1⟩; refine tk 5 ?_ (by simp (disch := omega) [hcr, hvl]; with_reducible rfl); refine dn ?_)
    | (refine rg 13 ?_; refine tk 2 ?_ (by simp (disch := omega) [hcr, hvl]; with_reducible rfl); (first | (refine te (hs := (by simp (disch := omega) [hcr, hvl]; with_reducible rfl)) (fun hb => ?_) (fun hb => ?_) <;> (try simp at hb) <;> (try (first | have hlt := key_lt hb | have hlt := name_lt hb | have hlt := long_lt hb | skip)) <;> (try (exfalso; omega))) | (refine tk 1 ?_ (by simp (disch := omega) [hcr, hvl]; with_reducible rfl))); all_goals (refine tk 3 ?_ (by simp (disch := omega) [hcr, hvl]; with_reducible rfl); refine dn ?_))
    | (refine rg 14 ?_; refine tk 2 ?_ (by simp (disch := omega) [hcr, hvl]; with_reducible rfl); refine fc en170 ?_; refine (sf170 hl (x := z) (by omega) (by omega)).mono ?_; rintro r H1 ⟨rfl, s1, rfl, hs1⟩; refine tk 5 ?_ (by simp (disch := omega) [hcr, hvl]; with_reducible rfl); refine dn ?_)
    | (refine rg 22 ?_; refine tk 2 ?_ (by simp (disch := omega) [hcr, hvl]; with_reducible rfl); refine fc en171 ?_; refine (p171 hl N own _ _ (by omega) (by omega) (by omega)).mono ?_; rintro r H1 ⟨rfl, ts2, y2, e2, rfl, hy2, hy2l, hn2, hk2, hc2⟩; refine tk 7 ?_ (by simp (disch := omega) [hcr, hvl]; with_reducible rfl); refine dn ?_)
    | (refine rg 25 ?_; refine aops_take 6 (mu := mu0) tab_ok (by simp [hcr, hvl]; rfl) ?_; obtain ⟨v9, H9, e9, a9, g9, o9⟩ := hap ts2 .shut (by omega); refine aops_take 4 (mu := mu0) tab_ok (by simp [e9, o9, hcr, a9.cells, a9.okc]; rfl) ?_; refine dn ?_)
    | (refine rg 27 ?_; refine tk 2 ?_ (by simp (disch := omega) [hcr, hvl]; with_reducible rfl); (first | (refine te (hs := (by simp (disch := omega) [hcr, hvl]; with_reducible rfl)) (fun hb => ?_) (fun hb => ?_) <;> (try simp at hb) <;> (try (first | have hlt := key_lt hb | have hlt := name_lt hb | have hlt := long_lt hb | skip)) <;> (try (exfalso; omega))) | (refine tk 1 ?_ (by simp (disch := omega) [hcr, hvl]; with_reducible rfl))); all_goals (refine tk 3 ?_ (by simp (disch := omega) [hcr, hvl]; with_reducible rfl); (first | (refine te (hs := (by simp (disch := omega) [hcr, hvl]; with_reducible rfl)) (fun hb => ?_) (fun hb => ?_) <;> (try simp at hb) <;> (try (first | have hlt := key_lt hb | have hlt := name_lt hb | have hlt := long_lt hb | skip)) <;> (try (exfalso; omega))) | (refine tk 1 ?_ (by simp (disch := omega) [hcr, hvl]; with_reducible rfl))); all_goals (refine tk 3 ?_ (by simp (disch := omega) [hcr, hvl]; with_reducible rfl); (first | (refine te (hs := (by simp (disch := omega) [hcr, hvl]; with_reducible rfl)) (fun hb => ?_) (fun hb => ?_) <;> (try simp at hb) <;> (try (first | have hlt := key_lt hb | have hlt := name_lt hb | have hlt := long_lt hb | skip)) <;> (try (exfalso; omega))) | (refine tk 1 ?_ (by simp (disch := omega) [hcr, hvl]; with_reducible rfl))); all_goals (refine tk 3 ?_ (by simp (disch := omega) [hcr, hvl]; with_reducible rfl); refine dn ?_))))
    | (refine rg 28 ?_; refine tk 3 ?_ (by simp (disch := omega) [hcr, hvl]; with_reducible rfl); refine fc en172 ?_; refine (p172 hl M S (by omega) (by omega) (by omega)).mono ?_; rintro r H1 ⟨rfl, t2, y2, e2, rfl, hy2, hy2l, hn2, hc2, hd2⟩; refine tk 7 ?_ (by simp (disch := omega) [hcr, hvl]; with_reducible rfl); refine dn ?_)
    | (refine rg 31 ?_; refine aops_take 7 (mu := mu0) tab_ok (by simp [hcr, hvl]; rfl) ?_; obtain ⟨v9, H9, e9, a9, g9, o9⟩ := hap [t2] .capped (by simp; omega); simp only [Tr.avs] at e9; refine aops_take 4 (mu := mu0) tab_ok (by simp [e9, o9, hcr, a9.cells, a9.okc]; rfl) ?_; refine dn ?_)
    | (refine rg 33 ?_; refine tk 3 ?_ (by simp (disch := omega) [hcr, hvl]; with_reducible rfl); refine fc en173 ?_; refine sf173.mono ?_; rintro r H1 ⟨rfl, s1, rfl⟩; refine fc en138 ?_; refine SF.then (sfk (by omega)) ?_; refine tk 1 ?_ (by simp (disch := omega) [hcr, hvl]; with_reducible rfl); refine dn ?_)
    | (refine ru ?_ (by simp (disch := omega) [hcr, hvl]; with_reducible rfl))
    | (refine awp_if rfl (fun hb => ?_) (fun hb => ?_) <;> (try simp at hb) <;> (try (first | have hlt := key_lt hb | have hlt := name_lt hb | have hlt := long_lt hb | skip)) <;> (try (exfalso; omega)))
    | fail
  all_goals first
    | exact part_end hrl hr hg hz hz2 ha (by assumption) hne hk0 hc0 hob hgc ap
    | exact part_end hrl hr hg (by omega) hy2l ha (by assumption) hne (by omega) (by omega) hob hgc ap
    | exact invP_next (z := z + 1) (a' := s1) (b' := b') (ts' := ts') (by assumption) (by omega) (by omega) hs1 (by assumption) hne (by omega) (by omega) (set_set hob) (hgc.set hr _) (ap.same rfl) ⟨rfl, rfl, only_cons (by simp) (only_cons (by simp (disch := omega)) (only_cons (by simp) (only_cons (by simp) (only_cons (by simp (disch := omega)) only_nil))))⟩
    | exact invP_next (z := z + 1) (a' := a') (b' := s1) (ts' := ts') (by assumption) (by omega) (by omega) ha hs1 hne (by omega) (by omega) (set_set hob) (hgc.set hr _) (ap.same rfl) ⟨rfl, rfl, only_cons (by simp) (only_cons (by simp (disch := omega)) (only_cons (by simp) (only_cons (by simp) (only_cons (by simp (disch := omega)) only_nil))))⟩
    | exact invP_next (z := z + 1) (a' := a') (b' := b') (ts' := ts') (by assumption) (by omega) (by omega) ha (by assumption) hne (by omega) (by omega) hob hgc ap ⟨rfl, rfl, only_cons (by simp) (only_cons (by simp (disch := omega)) (only_cons (by simp) (only_cons (by simp) (only_cons (by simp (disch := omega)) only_nil))))⟩
    | exact invP_next (z := y2) (a' := a') (b' := b') (ts' := ts' ++ ts2) (v' := v9) (by assumption) (by omega) (by omega) ha (by assumption) (neats_append hne hn2) (by simp only [List.length_append]; omega) (by rw [cnts_append]; omega) (set_set hob) (by have := g9.set hr (.cells [.int .i64 k, .int .i64 n, .str a', .str b', v9]); rwa [o9] at this) (by rw [avs_append]; exact a9.same rfl) ⟨rfl, rfl, only_cons (by simp) (only_cons (by simp (disch := omega)) (only_cons (by simp) (only_cons (by simp) (only_cons (by simp (disch := omega)) only_nil))))⟩
    | exact invP_next (z := y2) (a' := a') (b' := b') (ts' := ts' ++ [t2]) (v' := v9) (by assumption) (by omega) (by omega) ha (by assumption) (neats_append hne ⟨hn2, trivial⟩) (by simp only [List.length_append, List.length_singleton]; omega) (by rw [cnts_append]; simp only [Tr.cnts]; omega) (set_set hob) (by have := g9.set hr (.cells [.int .i64 k, .int .i64 n, .str a', .str b', v9]); rwa [o9] at this) (by rw [avs_append]; exact a9.same rfl) ⟨rfl, rfl, only_cons (by simp) (only_cons (by simp (disch := omega)) (only_cons (by simp) (only_cons (by simp) (only_cons (by simp (disch := omega)) only_nil))))⟩
end Go.Av
namespace Go.Av
open Go.Proofs
variable {W0 : World}
set_option maxRecDepth 10000
set_option maxHeartbeats 4000000
def mu1 : TypeId → Bool := fun t => t == 43
@[simp] theorem mu1_eq : mu1 43 = true := rfl
def ResR (l : List Tok) (x : Int) (r : AV) : Prop := ∃ (t : Tr) (y e : Int), r = .tuple [t.av, .int .i64 y, .int .i64 e] ∧ x ≤ y ∧ y ≤ l.length ∧ t.neat ∧ (t.cnt : Int) ≤ 2 * (y - x) ∧ (e = 0 → t = .none ∨ ∃ k n a b ks, t = .node k n a b ks ∧ (t.cnt : Int) + 1 ≤ 2 * (y - x))
def RowsOK (R : List RRow) : Prop := R.length ≤ 16 ∧ ∀ i (h : i < R.length), (R[i]).form.length ≤ 16
theorem declR_ok : RowsOK declR := ⟨by decide, by decide⟩
theorem specR_ok : RowsOK specR := ⟨by decide, by decide⟩
theorem p99 {l : List Tok} {N : Int} (hl : TokOKs l) (P : PP W0 l (N - 1)) {R : List RRow} (hR : RowsOK R) {own o2 : Own} {x : Int} {b : Bool} {H : Hp} (hx : 0 ≤ x) (hx2 : x ≤ l.length) (hN : (l.length : Int) - x ≤ N) :
    SF Tryz.prog W0 99 [.sl 4 (toks l) own, .int .i64 x, .sl 3 (R.map RRow.sh) o2, .bool b] H fun r H' => H' = H ∧ ResR l x r := by
  have hln := hl.1
  have hRl := hR.1
  refine SF.pureLe (sf_start [8, 9, 10] 90 Tryz.func99 rfl rfl rfl (by decide) (by simp) ?_)
  repeat' first
    | refine aSq ?_ | refine aBl ?_
    | refine ru ?_
    | fail
  refine awp_loop_inv (fun q st => ∃ (i : Nat), q = R.length - i ∧ i ≤ R.length ∧
    Sub st ⟨90, [(0, .sl 4 (toks l) own), (1, .int .i64 x), (2, .sl 3 (R.map RRow.sh) o2), (3, .bool b), (11, .int .i64 i)], H⟩) R.length
    ⟨0, rfl, by simp, rfl, rfl, only_cons (by simp) (only_cons (by simp) (only_cons (by simp) (only_cons (by simp) (only_cons (by simp) only_nil))))⟩ ?_
  rintro q st ⟨i, rfl, hi, hs2⟩
  refine awp_sub hs2 ?_
  clear hs2 st
  repeat' first
    | refine aSq ?_ | refine aRt ?_ | refine aSk ?_ | refine aEx ?_ | refine aBl ?_ | refine tN ?_ | refine tR ?_ | refine tE ?_ | refine iR ?_
    | (refine rg 4 ?_; refine aops_take 6 (mu := mu1) tab_ok (by simp (disch := omega) [RRow.sh]; with_reducible rfl) ?_; (first | (refine aops_test (mu := mu1) tab_ok (by simp (disch := omega) [RRow.sh]; with_reducible rfl) rfl (fun hb => ?_) (fun hb => ?_) <;> (try simp at hb) <;> (try (first | have hlt := key_lt hb | skip)) <;> (try (exfalso; omega))) | (refine aops_take 1 (mu := mu1) tab_ok (by simp (disch := omega) [RRow.sh]; with_reducible rfl) ?_)); all_goals (refine aops_take 7 (mu := mu1) tab_ok (by simp (disch := omega) [RRow.sh]; with_reducible rfl) ?_; (first | (refine aops_test (mu := mu1) tab_ok (by simp (disch := omega) [RRow.sh]; with_reducible rfl) rfl (fun hb => ?_) (fun hb => ?_) <;> (try simp at hb) <;> (try (first | have hlt := key_lt hb | skip)) <;> (try (exfalso; omega))) | (refine aops_take 1 (mu := mu1) tab_ok (by simp (disch := omega) [RRow.sh]; with_reducible rfl) ?_)); all_goals (refine aops_take 3 (mu := mu1) tab_ok (by simp (disch := omega) [RRow.sh]; with_reducible rfl) ?_; (first | (refine aops_test (mu := mu1) tab_ok (by simp (disch := omega) [RRow.sh]; with_reducible rfl) rfl (fun hb => ?_) (fun hb => ?_) <;> (try simp at hb) <;> (try (first | have hlt := key_lt hb | skip)) <;> (try (exfalso; omega))) | (refine aops_take 1 (mu := mu1) tab_ok (by simp (disch := omega) [RRow.sh]; with_reducible rfl) ?_)); all_goals (refine aops_take 9 (mu := mu1) tab_ok (by simp (disch := omega) [RRow.sh]; with_reducible rfl) ?_; (first | (refine fg en138 ?_; refine SF.then (sfk (by omega)) ?_) | (refine aops_take 1 (mu := mu1) tab_ok (by simp (disch := omega) [RRow.sh]; with_reducible rfl) ?_)); refine aops_take 2 (mu := mu1) tab_ok (by simp (disch := omega) [RRow.sh]; with_reducible rfl) ?_; (first | (refine aops_test (mu := mu1) tab_ok (by simp (disch := omega) [RRow.sh]; with_reducible rfl) rfl (fun hb => ?_) (fun hb => ?_) <;> (try simp at hb) <;> (try (first | have hlt := key_lt hb | skip)) <;> (try (exfalso; omega))) | (refine aops_take 1 (mu := mu1) tab_ok (by simp (disch := omega) [RRow.sh]; with_reducible rfl) ?_)); all_goals (refine aops_take 7 (mu := mu1) tab_ok (by simp (disch := omega) [RRow.sh]; with_reducible rfl) ?_; (first | (refine fg en139 ?_; refine (sf139 hl (by omega) (by omega)).mono ?_; rintro r H1 ⟨rfl, b1, rfl⟩) | (refine aops_take 1 (mu := mu1) tab_ok (by simp (disch := omega) [RRow.sh]; with_reducible rfl) ?_)); refine aops_take 2 (mu := mu1) tab_ok (by simp (disch := omega) [RRow.sh]; with_reducible rfl) ?_; refine dn ?_)))))
    | (refine rg 6 ?_; refine aops_take 9 (mu := mu1) tab_ok (by simp (disch := omega) [RRow.sh]; with_reducible rfl) ?_; refine fc en140 ?_; have hfl := hR.2 i (by assumption); refine (P own (x + 1) (R[i]).form H1 ⟨H1.objs ++ [.cells [.int .i64 (R[i]).kind, .int .i64 0, .str [], .str [], .slnil]], H1.hi⟩ H1.objs.length (R[i]).kind 0 [] [] [] .slnil (by omega) (by omega) (by omega) hfl (by simp) (by simp) (by simp; omega) trivial ((Gr.refl H1).obj _) (by simp) (by simp) (App.slnil _ _ _)).mono ?_; rintro r H2 ⟨y, e, a2, b2, ts2, v2, rfl, hy, hyl, ha2, hb2, hn2, hk2, hc2, ho2, hg2, ap2⟩; refine aops_take 5 (mu := mu1) tab_ok (by simp (disch := omega) [RRow.sh]; with_reducible rfl) ?_; refine dn ?_)
    | ((have hob2 : H2.objs[H1.objs.length]? = some (.cells [.int .i64 (R[i]).kind, .int .i64 0, .str a2, .str b2, v2]) := by rw [ho2]; simp); refine awp_only [(12, .ref H1.objs.length 0), (13, .int .i64 y)] (only_cons (by simp) (only_cons (by simp) only_nil)) ?_; refine awp_freeze H1.objs.length [(12, .ptr [.int .i64 (R[i]).kind, .int .i64 0, .str a2, .str b2, v2]), (13, .int .i64 y)] hob2 (.cons (.ptr _ 0 rfl) (.cons (.same _) .nil)) ?_; refine rg 9 ?_; refine aops_take 5 (mu := mu0) tab_ok (by simp; rfl) ?_; refine dn ?_)
    | (refine awp_run (mu := mu1) tab_ok (by simp (disch := omega) [RRow.sh]; with_reducible rfl) ?_)
    | (refine awp_if rfl (fun hb => ?_) (fun hb => ?_) <;> (try simp at hb) <;> (try (first | have hlt := key_lt hb | skip)) <;> (try (exfalso; omega)))
    | fail
  all_goals first
    | exact ⟨R.length - (i + 1), by omega, i + 1, rfl, by omega, rfl, rfl, only_cons (by simp) (only_cons (by simp) (only_cons (by simp) (only_cons (by simp) (only_cons (by simp (disch := omega)) only_nil))))⟩
    | (simp [retQ]; exact ⟨_, .refl _, .none, x, 0, rfl, by omega, by omega, trivial, by simp only [Tr.cnt]; omega, fun _ => .inl rfl⟩)
    | exact ⟨hg2, .tuple [.nilp, .int .i64 y, .int .i64 e], by simp, .none, y, e, rfl, by omega, by omega, trivial, by simp only [Tr.cnt]; omega, fun h => absurd h (by assumption)⟩
    | (have q := ap2.le'
       simp only [Tr.cln_avs] at q
       exact ⟨hg2.set (Nat.le_refl _) _, _, by simp; exact .tuple (.cons (.ptr (.cons (.refl _) (.cons (.refl _) (.cons (.refl _) (.cons (.refl _) (.cons q .nil)))))) (.cons (.refl _) (.cons (.refl _) .nil))), .node (R[i]).kind 0 a2 b2 ts2, y, 0, rfl, by omega, by omega, ⟨ha2, hb2, by simp at hk2; omega, hn2⟩, by simp only [Tr.cnt]; simp only [Tr.cnts] at hc2; omega, fun _ => .inr ⟨_, _, _, _, _, rfl, by simp only [Tr.cnt]; simp only [Tr.cnts] at hc2; omega⟩⟩)
end Go.Av
namespace Go.Av
open Go.Proofs
variable {W0 : World}
set_option maxRecDepth 10000
set_option maxHeartbeats 4000000
theorem p56 {l : List Tok} {N : Int} (hl : TokOKs l) (P : PP W0 l (N - 1)) {R : List RRow} (hR : RowsOK R) {own o2 : Own} {x : Int} {b : Bool} {H : Hp} (hx : 0 ≤ x) (hx2 : x ≤ l.length) (hN : (l.length : Int) - x ≤ N) :
    SF Tryz.prog W0 56 [.sl 4 (toks l) own, .int .i64 x, .sl 3 (R.map RRow.sh) o2, .bool b] H fun r H' => H' = H ∧ ResL l x r := by
  have hln := hl.1
  refine SF.pureLe (sf_start [8, 9, 10] 37 Tryz.func56 rfl rfl rfl (by decide) (by simp) ?_)
  repeat' first
    | refine aSq ?_ | refine aBl ?_
    | refine ru ?_
    | fail
  refine awp_loop_inv (fun q st => ∃ (ts : List Tr) (v : AV) (Hc : Hp) (z : Int), q = ((l.length : Int) - z).toNat ∧ x ≤ z ∧ z ≤ l.length ∧ Tr.neats ts ∧ (ts.length : Int) ≤ z - x ∧ (Tr.cnts ts : Int) ≤ 2 * (z - x) ∧ Gr H Hc ∧ App H Hc 1 (Tr.avs ts) v ∧
    Sub st ⟨37, [(0, .sl 4 (toks l) own), (1, .int .i64 z), (2, .sl 3 (R.map RRow.sh) o2), (3, .bool b), (11, v)], Hc⟩) ((l.length : Int) - x).toNat
    ⟨[], .slnil, H, x, rfl, by omega, hx2, trivial, by simp, by simp [Tr.cnts], Gr.refl _, App.slnil _ _ _, rfl, rfl, only_cons (by simp) (only_cons (by simp) (only_cons (by simp) (only_cons (by simp) (only_cons (by simp) only_nil))))⟩ ?_
  rintro q st ⟨ts, v, Hc, z, rfl, hz, hz2, hne, htl, htc, hg, a1, hs2⟩
  refine awp_sub hs2 ?_
  clear hs2 st
  repeat' first
    | refine aSq ?_ | refine aRt ?_ | refine aSk ?_ | refine aBl ?_ | refine tN ?_ | refine tR ?_ | refine iR ?_
    | (refine rg 2 ?_; refine aops_take 4 (mu := mu0) tab_ok (by simp; rfl) ?_; refine fc en99 ?_; refine (p99 hl P hR (by omega) (by omega) (by omega)).mono ?_; rintro r H1 ⟨rfl, t1, y1, e1, rfl, hy1, hy1l, hn1, hc1, hd1⟩; refine aops_take 7 (mu := mu0) tab_ok (by simp; rfl) ?_; refine dn ?_; refine thenN ?_; refine awp_only [(0, .sl 4 (toks l) own), (1, .int .i64 z), (2, .sl 3 (R.map RRow.sh) o2), (3, .bool b), (11, v), (12, t1.av), (13, .int .i64 y1), (14, .int .i64 e1)] (only_cons (by simp) (only_cons (by simp) (only_cons (by simp) (only_cons (by simp) (only_cons (by simp) (only_cons (by simp) (only_cons (by simp) (only_cons (by simp) only_nil)))))))) ?_; rcases Int.decEq e1 0 with hne1 | he1; rotate_left; rcases hd1 he1 with rfl | ⟨k1, n1, a1', b1', ks1, rfl, hd1⟩)
    | (refine rg 7 ?_; refine aops_take 3 (mu := mu0) tab_ok (by simp; rfl) ?_; obtain ⟨v', H', e3, a2, g2, o2⟩ := a1.append (T := tab) hg (x := .sl 1 [[(Tr.node k1 n1 a1' b1' ks1).av]] .capped) (fs := [[(Tr.node k1 n1 a1' b1' ks1).av]]) (t := 41) (e := 22) tab41 tab22 rfl (by decide) (by simp) (by simp) (by simp; omega); simp only [Tr.av] at e3; refine aops_take 2 (mu := mu0) tab_ok (by simp [e3]; rfl) ?_; refine dn ?_)
    | (refine ru ?_ (by simp (disch := omega) [Tr.av]; with_reducible rfl))
    | (refine awp_if rfl (fun hb => ?_) (fun hb => ?_) <;> (try simp at hb) <;> try (exfalso; omega))
    | refine inN ?_
  · have q := a1.le'
    simp only [Tr.cln_avs] at q
    exact ⟨hg, .tuple [.sl 1 (Tr.avs ts) .shut, .int .i64 z, .int .i64 0], by simp; exact .tuple (.cons q (.cons (.refl _) (.cons (.refl _) .nil))), ts, z, 0, rfl, by omega, by omega, hne, by omega, by omega⟩
  · have hna := neats_append hne (show Tr.neats [Tr.node k1 n1 a1' b1' ks1] from ⟨hn1, trivial⟩)
    have hca : (Tr.cnts (ts ++ [Tr.node k1 n1 a1' b1' ks1]) : Int) = Tr.cnts ts + (Tr.node k1 n1 a1' b1' ks1).cnt := by rw [cnts_append]; simp [Tr.cnts]
    have e5 : Tr.avs ts ++ [[(Tr.node k1 n1 a1' b1' ks1).av]] = Tr.avs (ts ++ [Tr.node k1 n1 a1' b1' ks1]) := by rw [avs_append]; rfl
    rw [e5] at a2
    have hnd : 1 ≤ ((Tr.node k1 n1 a1' b1' ks1).cnt : Int) := by simp only [Tr.cnt]; omega
    exact ⟨((l.length : Int) - y1).toNat, by omega, ts ++ [Tr.node k1 n1 a1' b1' ks1], v', H', y1, rfl, by omega, by omega, hna, by simp; omega, by omega, g2, a2, rfl, rfl, only_cons (by simp) (only_cons (by simp) (only_cons (by simp) (only_cons (by simp) (only_cons (by simp) only_nil))))⟩
  · exact ⟨hg, .tuple [.sl 1 (Tr.avs []) .shut, .int .i64 y1, .int .i64 e1], by simp; exact .tuple (.cons (.nilShut 1) (.cons (.refl _) (.cons (.refl _) .nil))), [], y1, e1, rfl, by omega, by omega, trivial, by simp; omega, by simp only [Tr.cnts]; omega⟩
theorem p212 {l : List Tok} {N : Int} (hl : TokOKs l) (P : PP W0 l (N - 1)) (M : PT W0 197 l (N - 1)) : PT W0 212 l N := by
  intro own x H hx hx2 hN
  have hln := hl.1
  refine SF.pureLe (sf_start [4, 5, 6] 109 Tryz.func212 rfl rfl rfl (by decide) (by simp) ?_)
  repeat' first
    | refine aSq ?_ | refine aRt ?_ | refine aSk ?_ | refine tN ?_ | refine tR ?_
    | (refine rg 1 ?_; refine tk 2 ?_; refine fc en138 ?_; refine SF.then (sfk (by omega)) ?_; refine dn ?_)
    | (refine rg 2 ?_; refine tk 3 ?_; refine fc en57 ?_; refine SF.then sf57 ?_; refine fc en56 ?_; refine (p56 hl P declR_ok (by omega) (by omega) (by omega)).mono ?_; rintro r H1 ⟨rfl, ts, y1, e1, rfl, hy1, hy1l, hn1, hk1, hc1⟩; refine tk 7 ?_; refine dn ?_)
    | (refine rg 5 ?_; refine tk 3 ?_; refine fc en223 ?_; refine (skeys1 hl (by omega) (by omega)).mono ?_; rintro r H2 ⟨rfl, y2, e2, rfl, hy2, hy2l, hd2⟩; refine tk 5 ?_; refine dn ?_)
    | (refine rg 6 ?_; refine tk 1 ?_; refine fc en32 ?_; (first | refine SF.then sf32n ?_ | refine SF.then sf32_1 ?_ | refine SF.then (sf32 (l := ts)) ?_); refine tk 5 ?_; refine dn ?_)
    | (refine rg 7 ?_; refine tk 2 ?_; refine fc en169 ?_; refine (sf169 hl (x := x) (by omega) (by omega)).mono ?_; rintro r H3 ⟨rfl, s3, rfl, hs3⟩; refine tk 5 ?_; refine dn ?_)
    | (refine rg 8 ?_; refine tk 1 ?_; (first | (refine te (fun hb => ?_) (fun hb => ?_) <;> (try simp at hb) <;> (try (first | have hlt := key_lt hb | have hlt := name_lt hb | have hlt := long_lt hb | skip)) <;> (try (exfalso; omega))) | (refine tk 1 ?_)); all_goals (refine tk 3 ?_; (first | (refine fg en138 ?_; refine SF.then (sfk (by omega)) ?_) | (refine tk 1 ?_)); refine tk 2 ?_; refine dn ?_))
    | (refine rg 9 ?_; refine tk 1 ?_; (first | (refine te (fun hb => ?_) (fun hb => ?_) <;> (try simp at hb) <;> (try (first | have hlt := key_lt hb | have hlt := name_lt hb | have hlt := long_lt hb | skip)) <;> (try (exfalso; omega))) | (refine tk 1 ?_)); all_goals (refine tk 2 ?_; (first | (refine fg en138 ?_; refine SF.then (sfk (by omega)) ?_) | (refine tk 1 ?_)); refine tk 1 ?_; refine dn ?_))
    | (refine rg 13 ?_; refine tk 2 ?_; refine fc en197 ?_; refine (M own _ _ (by omega) (by omega) (by omega)).mono ?_; rintro r H5 ⟨rfl, t5, y5, e5, rfl, hy5, hy5l, hn5, hc5, hd5⟩; refine tk 7 ?_; refine dn ?_)
    | (refine rg 16 ?_; refine tk 3 ?_; refine fc en223 ?_; refine (skeys1 hl (by omega) (by omega)).mono ?_; rintro r H2 ⟨rfl, y2, e2, rfl, hy2, hy2l, hd2⟩; refine tk 5 ?_; refine dn ?_)
    | (refine rg 18 ?_; refine tk 3 ?_; refine fc en32 ?_; (first | refine SF.then sf32n ?_ | refine SF.then sf32_1 ?_ | refine SF.then (sf32 (l := ts)) ?_); refine tk 1 ?_; refine dn ?_)
    | (refine rg 20 ?_; refine tk 2 ?_; refine fc en170 ?_; refine (sf170 hl (x := x) (by omega) (by omega)).mono ?_; rintro r H4 ⟨rfl, s4, rfl, hs4⟩; refine tk 5 ?_; refine dn ?_)
    | (refine rg 23 ?_; refine tk 1 ?_; refine fc en32 ?_; (first | refine SF.then sf32n ?_ | refine SF.then sf32_1 ?_ | refine SF.then (sf32 (l := ts)) ?_); refine tk 5 ?_; refine dn ?_)
    | refine ru ?_
    | (refine awp_if rfl (fun hb => ?_) (fun hb => ?_) <;> (try simp at hb) <;> (try (first | have hlt := key_lt hb | have hlt := name_lt hb | have hlt := long_lt hb | skip)) <;> (try (exfalso; omega)))
    | fail
  all_goals simp [retQ]
  all_goals first
    | exact ⟨_, .refl _, resN (by omega) (by omega) (by omega)⟩
    | exact ⟨_, .refl _, resT _ _ _ (by omega) (by omega) (by assumption) (by omega) (by omega)⟩
    | exact ⟨_, .refl _, resT (.node 41 0 s4 [] []) _ _ (by omega) (by omega) (neatN hs4 (by simp) trivial) (by simp only [Tr.cnt, Tr.cnts]; omega) (by simp only [Tr.cnt, Tr.cnts]; omega)⟩
    | exact ⟨_, .refl _, resT (.node 42 0 s3 [] [t5]) _ _ (by omega) (by omega) (neatN hs3 (by simp) ⟨hn5, trivial⟩) (by simp only [Tr.cnt, Tr.cnts]; omega) (by simp only [Tr.cnt, Tr.cnts]; omega)⟩
    | exact ⟨_, .refl _, resT (.node 40 0 [] [] ts) _ _ (by omega) (by omega) (neatN (by simp) (by omega) hn1) (by simp only [Tr.cnt, Tr.cnts]; omega) (by simp only [Tr.cnt, Tr.cnts]; omega)⟩
theorem p213 {l : List Tok} {N : Int} (hl : TokOKs l) (P : PP W0 l (N - 1)) : PT W0 213 l N := by
  intro own x H hx hx2 hN
  have hln := hl.1
  refine SF.pureLe (sf_start [4, 5, 6] 52 Tryz.func213 rfl rfl rfl (by decide) (by simp) ?_)
  repeat' first
    | refine aSq ?_ | refine aRt ?_ | refine aSk ?_ | refine tN ?_ | refine tR ?_
    | (refine rg 1 ?_; refine tk 2 ?_; refine fc en138 ?_; refine SF.then (sfk (by omega)) ?_; refine dn ?_)
    | (refine rg 2 ?_; refine tk 3 ?_; refine fc en224 ?_; refine SF.then sf224 ?_; refine fc en56 ?_; refine (p56 hl P specR_ok (by omega) (by omega) (by omega)).mono ?_; rintro r H1 ⟨rfl, ts, y1, e1, rfl, hy1, hy1l, hn1, hk1, hc1⟩; refine tk 7 ?_; refine dn ?_)
    | (refine rg 5 ?_; refine tk 3 ?_; refine fc en223 ?_; refine (skeys1 hl (by omega) (by omega)).mono ?_; rintro r H2 ⟨rfl, y2, e2, rfl, hy2, hy2l, hd2⟩; refine tk 5 ?_; refine dn ?_)
    | (refine rg 6 ?_; refine tk 1 ?_; refine fc en32 ?_; (first | refine SF.then sf32n ?_ | refine SF.then (sf32 (l := ts)) ?_); refine tk 5 ?_; refine dn ?_)
    | (refine rg 7 ?_; refine tk 2 ?_; refine fc en169 ?_; refine (sf169 hl (x := x) (by omega) (by omega)).mono ?_; rintro r H3 ⟨rfl, s3, rfl, hs3⟩; refine tk 5 ?_; refine dn ?_)
    | (refine rg 10 ?_; refine tk 1 ?_; refine fc en32 ?_; (first | refine SF.then sf32n ?_ | refine SF.then (sf32 (l := ts)) ?_); refine tk 5 ?_; refine dn ?_)
    | refine ru ?_
    | (refine awp_if rfl (fun hb => ?_) (fun hb => ?_) <;> (try simp at hb) <;> (try (first | have hlt := key_lt hb | have hlt := name_lt hb | have hlt := long_lt hb | skip)) <;> (try (exfalso; omega)))
    | fail
  all_goals simp [retQ]
  all_goals first
    | exact ⟨_, .refl _, resN (by omega) (by omega) (by omega)⟩
    | exact ⟨_, .refl _, resT (.node 51 0 s3 [] []) _ _ (by omega) (by omega) (neatN hs3 (by simp) trivial) (by simp only [Tr.cnt, Tr.cnts]; omega) (by simp only [Tr.cnt, Tr.cnts]; omega)⟩
    | exact ⟨_, .refl _, resT (.node 50 0 [] [] ts) _ _ (by omega) (by omega) (neatN (by simp) (by omega) hn1) (by simp only [Tr.cnt, Tr.cnts]; omega) (by simp only [Tr.cnt, Tr.cnts]; omega)⟩
end Go.Av
