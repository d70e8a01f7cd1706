/-
  Go read by value: lemmas (part 23): D30, D31, D32, D33, D34, D35.
-/
import Derived.Test.YtdeocbficanfaaaGreatDoorX17
import Derived.Test.YtdeocbficanfaaaGreatDoorX18
set_option linter.unusedVariables false
set_option linter.unusedSimpArgs false
set_option linter.unusedSectionVars false
namespace Go.Av
open Go.Proofs
variable {W0 : World}
set_option maxRecDepth 10000
set_option maxHeartbeats 4000000
def TokOKs (l : List Tok) : Prop := l.length ≤ 1000000 ∧ ∀ t ∈ l, t.text.length ≤ 67108863
def keyI (l : List Tok) (x : Int) (s : Str) : Bool := decide (0 ≤ x) && keyAt l x.toNat s
theorem key_lt {l : List Tok} {x : Int} {s : Str} (h : keyI l x s = true) : 0 ≤ x ∧ x < l.length := by
  simp only [keyI, Bool.and_eq_true, decide_eq_true_eq] at h
  have := keyAt_lt h.2
  omega
theorem sfk {l : List Tok} {own : Own} {x : Int} {s : Str} {H : Hp} (hx : 0 ≤ x) : SF Tryz.prog W0 138 [.sl 4 (toks l) own, .int .i64 x, .str s] H fun r H' => H' = H ∧ r = .bool (keyI l x s) := by
  have h := sf138 (W0 := W0) (l := l) (own := own) (i := x.toNat) (s := s) (H := H)
  rw [Int.toNat_of_nonneg hx] at h
  simpa [keyI, hx] using h
def nameI (l : List Tok) (x : Int) : Bool := decide (0 ≤ x) && (match l[x.toNat]? with | some t => decide (t.kind = 1) && checkB t.text | none => false)
def longI (l : List Tok) (x : Int) : Bool := decide (0 ≤ x) && (match l[x.toNat]? with | some t => decide (t.kind = 1) && longB t.text | none => false)
theorem name_lt {l : List Tok} {x : Int} (h : nameI l x = true) : 0 ≤ x ∧ x < l.length := by
  simp only [nameI, Bool.and_eq_true, decide_eq_true_eq] at h
  rcases Nat.lt_or_ge x.toNat l.length with q | q
  · omega
  · rw [List.getElem?_eq_none q] at h; simp at h
theorem long_lt {l : List Tok} {x : Int} (h : longI l x = true) : 0 ≤ x ∧ x < l.length := by
  simp only [longI, Bool.and_eq_true, decide_eq_true_eq] at h
  rcases Nat.lt_or_ge x.toNat l.length with q | q
  · omega
  · rw [List.getElem?_eq_none q] at h; simp at h
theorem sf169 {l : List Tok} {own : Own} {x : Int} {H : Hp} (hl : TokOKs l) (hx : 0 ≤ x) (hx2 : x ≤ 2000000) : SF Tryz.prog W0 169 [.sl 4 (toks l) own, .int .i64 x] H fun r H' => H' = H ∧ ∃ s : Str, r = .tuple [.str s, .bool (nameI l x)] ∧ s.length ≤ 67108863 := by
  refine SF.pureLe (sf_start [4, 5] 35 Tryz.func169 rfl rfl rfl (by decide) (by simp) ?_)
  obtain ⟨i, rfl⟩ := Int.eq_ofNat_of_zero_le hx
  have hln := hl.1
  rcases Nat.lt_or_ge i l.length with hlt | hge
  · have htx := hl.2 l[i] (List.getElem_mem hlt)
    repeat' first
      | refine aSq ?_ | refine aRt ?_ | refine aSk ?_ | refine tN ?_ | refine tR ?_
      | (refine rg 1 ?_; refine tk 2 ?_; (first | (refine te (fun hb => ?_) (fun hb => ?_) <;> (try simp at hb) <;> try (exfalso; omega)) | (refine tk 1 ?_)); all_goals (refine tk 5 ?_; (first | (refine te (fun hb => ?_) (fun hb => ?_) <;> (try simp at hb) <;> try (exfalso; omega)) | (refine tk 1 ?_)); all_goals (refine tk 7 ?_; (first | (refine te (fun hb => ?_) (fun hb => ?_) <;> (try simp at hb) <;> try (exfalso; omega)) | (refine tk 1 ?_)); all_goals (refine tk 5 ?_; (first | (refine fg en157 ?_; refine SF.then (sf157 (by omega)) ?_) | (refine tk 1 ?_)); refine tk 1 ?_; refine dn ?_))))
      | refine ru ?_
      | (refine awp_if rfl (fun hb => ?_) (fun hb => ?_) <;> (try simp at hb) <;> try (exfalso; omega))
      | fail
    all_goals
      (have e0 : l[i]? = some l[i] := List.getElem?_eq_getElem hlt
       first
         | (have e : nameI l i = true := by simp [nameI, e0, *]
            exact ⟨Gr.refl _, .tuple [.str l[i].text, .bool (nameI l i)], by simp [e], _, rfl, htx⟩)
         | (have e : nameI l i = false := by simp [nameI, e0, *]
            exact ⟨Gr.refl _, .tuple [.str [], .bool (nameI l i)], by simp [e], _, rfl, by simp⟩))
  · repeat' first
      | refine aSq ?_ | refine aRt ?_ | refine aSk ?_ | refine tN ?_
      | (refine rg 1 ?_; refine tk 2 ?_; (first | (refine te (fun hb => ?_) (fun hb => ?_) <;> (try simp at hb) <;> try (exfalso; omega)) | (refine tk 1 ?_)); all_goals (refine tk 5 ?_; (first | (refine te (fun hb => ?_) (fun hb => ?_) <;> (try simp at hb) <;> try (exfalso; omega)) | (refine tk 1 ?_)); all_goals (refine tk 7 ?_; (first | (refine te (fun hb => ?_) (fun hb => ?_) <;> (try simp at hb) <;> try (exfalso; omega)) | (refine tk 1 ?_)); all_goals (refine tk 5 ?_; (first | (refine fg en157 ?_; refine SF.then (sf157 ..) ?_) | (refine tk 1 ?_)); refine tk 1 ?_; refine dn ?_))))
      | refine ru ?_
      | (refine awp_if rfl (fun hb => ?_) (fun hb => ?_) <;> (try simp at hb) <;> try (exfalso; omega))
      | fail
    have e : nameI l i = false := by simp [nameI, List.getElem?_eq_none hge]
    exact ⟨Gr.refl _, .tuple [.str [], .bool (nameI l i)], by simp [e], _, rfl, by simp⟩
theorem sf170 {l : List Tok} {own : Own} {x : Int} {H : Hp} (hl : TokOKs l) (hx : 0 ≤ x) (hx2 : x ≤ 2000000) : SF Tryz.prog W0 170 [.sl 4 (toks l) own, .int .i64 x] H fun r H' => H' = H ∧ ∃ s : Str, r = .tuple [.str s, .bool (longI l x)] ∧ s.length ≤ 67108863 := by
  refine SF.pureLe (sf_start [4, 5] 35 Tryz.func170 rfl rfl rfl (by decide) (by simp) ?_)
  obtain ⟨i, rfl⟩ := Int.eq_ofNat_of_zero_le hx
  have hln := hl.1
  rcases Nat.lt_or_ge i l.length with hlt | hge
  · have htx := hl.2 l[i] (List.getElem_mem hlt)
    repeat' first
      | refine aSq ?_ | refine aRt ?_ | refine aSk ?_ | refine tN ?_ | refine tR ?_
      | (refine rg 1 ?_; refine tk 2 ?_; (first | (refine te (fun hb => ?_) (fun hb => ?_) <;> (try simp at hb) <;> try (exfalso; omega)) | (refine tk 1 ?_)); all_goals (refine tk 5 ?_; (first | (refine te (fun hb => ?_) (fun hb => ?_) <;> (try simp at hb) <;> try (exfalso; omega)) | (refine tk 1 ?_)); all_goals (refine tk 7 ?_; (first | (refine te (fun hb => ?_) (fun hb => ?_) <;> (try simp at hb) <;> try (exfalso; omega)) | (refine tk 1 ?_)); all_goals (refine tk 5 ?_; (first | (refine fg en158 ?_; refine SF.then (sf158 (by omega)) ?_) | (refine tk 1 ?_)); refine tk 1 ?_; refine dn ?_))))
      | refine ru ?_
      | (refine awp_if rfl (fun hb => ?_) (fun hb => ?_) <;> (try simp at hb) <;> try (exfalso; omega))
      | fail
    all_goals
      (have e0 : l[i]? = some l[i] := List.getElem?_eq_getElem hlt
       first
         | (have e : longI l i = true := by simp [longI, e0, *]
            exact ⟨Gr.refl _, .tuple [.str l[i].text, .bool (longI l i)], by simp [e], _, rfl, htx⟩)
         | (have e : longI l i = false := by simp [longI, e0, *]
            exact ⟨Gr.refl _, .tuple [.str [], .bool (longI l i)], by simp [e], _, rfl, by simp⟩))
  · repeat' first
      | refine aSq ?_ | refine aRt ?_ | refine aSk ?_ | refine tN ?_
      | (refine rg 1 ?_; refine tk 2 ?_; (first | (refine te (fun hb => ?_) (fun hb => ?_) <;> (try simp at hb) <;> try (exfalso; omega)) | (refine tk 1 ?_)); all_goals (refine tk 5 ?_; (first | (refine te (fun hb => ?_) (fun hb => ?_) <;> (try simp at hb) <;> try (exfalso; omega)) | (refine tk 1 ?_)); all_goals (refine tk 7 ?_; (first | (refine te (fun hb => ?_) (fun hb => ?_) <;> (try simp at hb) <;> try (exfalso; omega)) | (refine tk 1 ?_)); all_goals (refine tk 5 ?_; (first | (refine fg en158 ?_; refine SF.then (sf158 ..) ?_) | (refine tk 1 ?_)); refine tk 1 ?_; refine dn ?_))))
      | refine ru ?_
      | (refine awp_if rfl (fun hb => ?_) (fun hb => ?_) <;> (try simp at hb) <;> try (exfalso; omega))
      | fail
    have e : longI l i = false := by simp [longI, List.getElem?_eq_none hge]
    exact ⟨Gr.refl _, .tuple [.str [], .bool (longI l i)], by simp [e], _, rfl, by simp⟩
end Go.Av
namespace Go.Av
open Go.Proofs
variable {W0 : World}
set_option maxRecDepth 10000
set_option maxHeartbeats 4000000
def ResT (l : List Tok) (x : Int) (r : AV) : Prop := ∃ (t : Tr) (y e : Int), r = .tuple [t.av, .int .i64 y, .int .i64 e] ∧ x ≤ y ∧ y ≤ l.length ∧ t.neat ∧ (t.cnt : Int) ≤ 2 * (y - x) ∧ (e = 0 → (t.cnt : Int) + 1 ≤ 2 * (y - x))
def ResL (l : List Tok) (x : Int) (r : AV) : Prop := ∃ (ts : List Tr) (y e : Int), r = .tuple [.sl 1 (Tr.avs ts) .shut, .int .i64 y, .int .i64 e] ∧ x ≤ y ∧ y ≤ l.length ∧ Tr.neats ts ∧ (ts.length : Int) ≤ y - x ∧ (Tr.cnts ts : Int) ≤ 2 * (y - x)
def PT (W0 : World) (f : FuncId) (l : List Tok) (N : Int) : Prop := ∀ (own : Own) (x : Int) (H : Hp), 0 ≤ x → x ≤ l.length → (l.length : Int) - x ≤ N → SF Tryz.prog W0 f [.sl 4 (toks l) own, .int .i64 x] H fun r H' => H' = H ∧ ResT l x r
def PL (W0 : World) (f : FuncId) (l : List Tok) (N : Int) : Prop := ∀ (own : Own) (x : Int) (H : Hp), 0 ≤ x → x ≤ l.length → (l.length : Int) - x ≤ N → SF Tryz.prog W0 f [.sl 4 (toks l) own, .int .i64 x] H fun r H' => H' = H ∧ ResL l x r
theorem resT {l : List Tok} {x : Int} (t : Tr) (y e : Int) (h1 : x ≤ y) (h2 : y ≤ l.length) (h3 : t.neat) (h4 : (t.cnt : Int) ≤ 2 * (y - x)) (h5 : e = 0 → (t.cnt : Int) + 1 ≤ 2 * (y - x)) : ResT l x (.tuple [t.av, .int .i64 y, .int .i64 e]) := ⟨t, y, e, rfl, h1, h2, h3, h4, h5⟩
theorem neat2 {k n : Int} {t u : Tr} (h1 : t.neat) (h2 : u.neat) : (Tr.node k n [] [] [t, u]).neat := ⟨by simp, by simp, by simp, h1, h2, trivial⟩
theorem resN {l : List Tok} {x y e : Int} (h1 : x ≤ y) (h2 : y ≤ l.length) (h3 : e = 0 → 1 ≤ 2 * (y - x)) : ResT l x (.tuple [.nilp, .int .i64 y, .int .i64 e]) := resT .none y e h1 h2 trivial (by simp only [Tr.cnt]; omega) (by simp only [Tr.cnt]; omega)
theorem neatN {k n : Int} {a : Str} {l : List Tr} (ha : a.length ≤ 67108863) (hl : l.length ≤ 67108864) (h : Tr.neats l) : (Tr.node k n a [] l).neat := ⟨ha, by simp, hl, h⟩
theorem sf32n {kind : Int} {name : Str} {H : Hp} : SF Tryz.prog W0 32 [.int .i64 kind, .str name, .slnil] H fun r H' => H' = H ∧ r = (Tr.node kind 0 name [] []).av :=
  SF.args (args' := [.int .i64 kind, .str name, .sl 1 (Tr.avs []) .shut]) (.cons (.refl _) (.cons (.refl _) (.cons (.nilShut 1) .nil))) sf32
theorem p210 {l : List Tok} {N : Int} (hl : TokOKs l) (P : PT W0 216 l N) (T : PT W0 210 l (N - 1)) : PT W0 210 l N := by
  intro own x H hx hx2 hN
  have hln := hl.1
  refine SF.pureLe (sf_start [4, 5, 6] 42 Tryz.func210 rfl rfl rfl (by decide) (by simp) ?_)
  repeat' first
    | refine aSq ?_ | refine aRt ?_ | refine aSk ?_ | refine tN ?_ | refine tR ?_
    | (refine rg 1 ?_; refine tk 2 ?_; refine fc en216 ?_; refine (P own _ _ hx hx2 hN).mono ?_; rintro r H1 ⟨rfl, t1, y1, e1, rfl, hy1, hy1l, hn1, hc1, hd1⟩; refine tk 7 ?_; refine dn ?_)
    | (refine rg 2 ?_; refine tk 2 ?_; (first | (refine te (fun hb => ?_) (fun hb => ?_) <;> (try simp at hb) <;> (try (have hlt := key_lt hb)) <;> (try (exfalso; omega))) | (refine tk 1 ?_)); all_goals (refine tk 2 ?_; (first | (refine fg en138 ?_; refine SF.then (sfk (by omega)) ?_) | (refine tk 1 ?_)); refine tk 2 ?_; refine dn ?_))
    | (refine rg 4 ?_; refine tk 3 ?_; refine fc en210 ?_; refine (T own _ _ (by omega) (by omega) (by omega)).mono ?_; rintro r H1 ⟨rfl, t2, y2, e2, rfl, hy2, hy2l, hn2, hc2, hd2⟩; refine tk 7 ?_; refine dn ?_)
    | (refine rg 5 ?_; refine tk 3 ?_; refine fc en32 ?_; refine SF.then (sf32 (l := [t1, t2])) ?_; refine tk 5 ?_; refine dn ?_)
    | refine ru ?_
    | (refine awp_if rfl (fun hb => ?_) (fun hb => ?_) <;> (try simp at hb) <;> (try (have hlt := key_lt hb)) <;> (try (exfalso; omega)))
    | fail
  · exact ⟨Gr.refl _, _, by simp, resT t1 y1 e1 hy1 hy1l hn1 hc1 hd1⟩
  · exact ⟨Gr.refl _, _, by simp, resT t1 y1 e1 hy1 hy1l hn1 hc1 hd1⟩
  · exact ⟨Gr.refl _, _, by simp, resT (.node 5 0 [] [] [t1, t2]) y2 e2 (by omega) hy2l (neat2 hn1 hn2) (by simp only [Tr.cnt, Tr.cnts]; omega) (by simp only [Tr.cnt, Tr.cnts]; omega)⟩
theorem p216 {l : List Tok} {N : Int} (hl : TokOKs l) (P : PT W0 225 l N) (T : PT W0 216 l (N - 1)) : PT W0 216 l N := by
  intro own x H hx hx2 hN
  have hln := hl.1
  refine SF.pureLe (sf_start [4, 5, 6] 42 Tryz.func216 rfl rfl rfl (by decide) (by simp) ?_)
  repeat' first
    | refine aSq ?_ | refine aRt ?_ | refine aSk ?_ | refine tN ?_ | refine tR ?_
    | (refine rg 1 ?_; refine tk 2 ?_; refine fc en225 ?_; refine (P own _ _ hx hx2 hN).mono ?_; rintro r H1 ⟨rfl, t1, y1, e1, rfl, hy1, hy1l, hn1, hc1, hd1⟩; refine tk 7 ?_; refine dn ?_)
    | (refine rg 2 ?_; refine tk 2 ?_; (first | (refine te (fun hb => ?_) (fun hb => ?_) <;> (try simp at hb) <;> (try (have hlt := key_lt hb)) <;> (try (exfalso; omega))) | (refine tk 1 ?_)); all_goals (refine tk 2 ?_; (first | (refine fg en138 ?_; refine SF.then (sfk (by omega)) ?_) | (refine tk 1 ?_)); refine tk 2 ?_; refine dn ?_))
    | (refine rg 4 ?_; refine tk 3 ?_; refine fc en216 ?_; refine (T own _ _ (by omega) (by omega) (by omega)).mono ?_; rintro r H1 ⟨rfl, t2, y2, e2, rfl, hy2, hy2l, hn2, hc2, hd2⟩; refine tk 7 ?_; refine dn ?_)
    | (refine rg 5 ?_; refine tk 3 ?_; refine fc en32 ?_; refine SF.then (sf32 (l := [t1, t2])) ?_; refine tk 5 ?_; refine dn ?_)
    | refine ru ?_
    | (refine awp_if rfl (fun hb => ?_) (fun hb => ?_) <;> (try simp at hb) <;> (try (have hlt := key_lt hb)) <;> (try (exfalso; omega)))
    | fail
  · exact ⟨Gr.refl _, _, by simp, resT t1 y1 e1 hy1 hy1l hn1 hc1 hd1⟩
  · exact ⟨Gr.refl _, _, by simp, resT t1 y1 e1 hy1 hy1l hn1 hc1 hd1⟩
  · exact ⟨Gr.refl _, _, by simp, resT (.node 6 0 [] [] [t1, t2]) y2 e2 (by omega) hy2l (neat2 hn1 hn2) (by simp only [Tr.cnt, Tr.cnts]; omega) (by simp only [Tr.cnt, Tr.cnts]; omega)⟩
theorem p225 {l : List Tok} {N : Int} (hl : TokOKs l) (T : PT W0 210 l (N - 1)) (C : PL W0 194 l (N - 1)) : PT W0 225 l N := by
  intro own x H hx hx2 hN
  have hln := hl.1
  refine SF.pureLe (sf_start [4, 5, 6] 113 Tryz.func225 rfl rfl rfl (by decide) (by simp) ?_)
  repeat' first
    | refine aSq ?_ | refine aRt ?_ | refine aSk ?_ | refine tN ?_ | refine tR ?_
    | (refine rg 1 ?_; refine tk 2 ?_; refine fc en170 ?_; refine (sf170 hl hx (by omega)).mono ?_; rintro r H1 ⟨rfl, s1, rfl, hs1⟩; refine tk 5 ?_; refine dn ?_)
    | (refine rg 3 ?_; refine tk 1 ?_; refine fc en32 ?_; (first | refine SF.then sf32n ?_ | refine SF.then (sf32 (l := ts)) ?_); refine tk 5 ?_; refine dn ?_)
    | (refine rg 4 ?_; refine tk 2 ?_; refine fc en138 ?_; refine SF.then (sfk (by omega)) ?_; refine dn ?_)
    | (refine rg 5 ?_; refine fc en32 ?_; (first | refine SF.then sf32n ?_ | refine SF.then (sf32 (l := ts)) ?_); refine tk 5 ?_; refine dn ?_)
    | (refine rg 6 ?_; refine tk 2 ?_; refine fc en138 ?_; refine SF.then (sfk (by omega)) ?_; refine dn ?_)
    | (refine rg 7 ?_; refine fc en32 ?_; (first | refine SF.then sf32n ?_ | refine SF.then (sf32 (l := ts)) ?_); refine tk 5 ?_; refine dn ?_)
    | (refine rg 8 ?_; refine tk 2 ?_; refine fc en138 ?_; refine SF.then (sfk (by omega)) ?_; refine dn ?_)
    | (refine rg 9 ?_; refine fc en32 ?_; (first | refine SF.then sf32n ?_ | refine SF.then (sf32 (l := ts)) ?_); refine tk 5 ?_; refine dn ?_)
    | (refine rg 10 ?_; refine tk 2 ?_; refine fc en138 ?_; refine SF.then (sfk (by omega)) ?_; refine dn ?_)
    | (refine rg 11 ?_; refine tk 3 ?_; refine fc en210 ?_; refine (T own _ _ (by omega) (by omega) (by omega)).mono ?_; rintro r H1 ⟨rfl, t2, y2, e2, rfl, hy2, hy2l, hn2, hc2, hd2⟩; refine tk 7 ?_; refine dn ?_)
    | (refine rg 14 ?_; refine tk 2 ?_; refine fc en138 ?_; refine SF.then (sfk (by omega)) ?_; refine tk 1 ?_; refine dn ?_)
    | (refine rg 17 ?_; refine tk 2 ?_; refine fc en138 ?_; refine SF.then (sfk (by omega)) ?_; refine tk 1 ?_; refine dn ?_)
    | (refine rg 19 ?_; refine tk 3 ?_; refine fc en169 ?_; refine (sf169 hl (x := x + 1) (by omega) (by omega)).mono ?_; rintro r H1 ⟨rfl, s2, rfl, hs2⟩; refine tk 5 ?_; refine dn ?_)
    | (refine rg 22 ?_; refine tk 3 ?_; refine fc en138 ?_; refine SF.then (sfk (by omega)) ?_; refine tk 1 ?_; refine dn ?_)
    | (refine rg 24 ?_; refine tk 3 ?_; refine fc en194 ?_; refine (C own _ _ (by omega) (by omega) (by omega)).mono ?_; rintro r H1 ⟨rfl, ts, y3, e3, rfl, hy3, hy3l, hn3, hk3, hc3⟩; refine tk 7 ?_; refine dn ?_)
    | (refine rg 27 ?_; refine tk 2 ?_; refine fc en138 ?_; refine SF.then (sfk (by omega)) ?_; refine tk 1 ?_; refine dn ?_)
    | (refine rg 29 ?_; refine tk 2 ?_; refine fc en32 ?_; (first | refine SF.then sf32n ?_ | refine SF.then (sf32 (l := ts)) ?_); refine tk 5 ?_; refine dn ?_)
    | refine ru ?_
    | (refine awp_if rfl (fun hb => ?_) (fun hb => ?_) <;> (try simp at hb) <;> (try (first | have hlt := key_lt hb | have hlt := name_lt hb | have hlt := long_lt hb)) <;> (try (exfalso; omega)))
    | fail
  all_goals simp [retQ]
  all_goals first
    | exact ⟨_, .refl _, resN (by omega) (by omega) (by omega)⟩
    | exact ⟨_, .refl _, resT _ _ _ (by omega) (by omega) (by first | assumption | exact neatN (by simp) (by simp) trivial | exact neatN (by omega) (by simp) trivial | exact neatN hs2 (by omega) hn3) (by first | omega | (simp only [Tr.cnt, Tr.cnts]; omega)) (by first | omega | (simp only [Tr.cnt, Tr.cnts]; omega))⟩
end Go.Av
namespace Go.Av
open Go.Proofs
variable {W0 : World}
set_option maxRecDepth 10000
set_option maxHeartbeats 4000000
theorem App.elem {T : Tab} {H0 H : Hp} {sz : Nat} {es : List (List AV)} {v : AV} (h : App H0 H sz es v) (t : TypeId) {i : Nat} (hi : i < es.length) (own : Own) : elemA T t v (.int .i64 i) = elemA T t (.sl sz es own) (.int .i64 i) := by
  rcases h.is with ⟨rfl, rfl⟩ | rfl | ⟨k, _, rfl, _⟩
  · simp at hi
  all_goals
    (unfold elemA
     cases (T t).map (·.kind) with
     | none => rfl
     | some k => cases k <;> rfl)
def Cons8 (ts : List Tr) : Prop := ∀ t ∈ ts, ∃ s u, t = .node 8 0 s [] [u]
theorem neats_append : ∀ {a b : List Tr}, Tr.neats a → Tr.neats b → Tr.neats (a ++ b)
  | [], _, _, h => h
  | _ :: _, _, h, k => ⟨h.1, neats_append h.2 k⟩
theorem cnts_append : ∀ a b : List Tr, Tr.cnts (a ++ b) = Tr.cnts a + Tr.cnts b
  | [], _ => by simp [Tr.cnts]
  | t :: a, b => by simp only [List.cons_append, Tr.cnts, cnts_append a b]; omega
theorem p194 {l : List Tok} {N : Int} (hl : TokOKs l) (T : PT W0 210 l (N - 1)) : PL W0 194 l N := by
  intro own x H hx hx2 hN
  have hln := hl.1
  refine SF.pureLe (sf_start [4, 5, 6] 73 Tryz.func194 rfl rfl rfl (by decide) (by simp) ?_)
  repeat' first
    | refine aSq ?_ | refine aBl ?_
    | refine ru ?_
    | fail
  refine awp_loop_inv (fun q st => ∃ (ts : List Tr) (v : AV) (Hc : Hp) (z : Int), q = ((l.length : Int) - z).toNat ∧ x ≤ z ∧ z ≤ l.length ∧ Tr.neats ts ∧ Cons8 ts ∧ (ts.length : Int) ≤ z - x ∧ (Tr.cnts ts : Int) ≤ 2 * (z - x) ∧ Gr H Hc ∧ App H Hc 1 (Tr.avs ts) v ∧
    Sub st ⟨73, [(0, .sl 4 (toks l) own), (1, .int .i64 z), (7, v)], Hc⟩) ((l.length : Int) - x).toNat
    ⟨[], .slnil, H, x, rfl, by omega, hx2, trivial, (by intro t ht; simp at ht), by simp, by simp [Tr.cnts], Gr.refl _, App.slnil _ _ _, rfl, rfl, only_cons (by simp) (only_cons (by simp) (only_cons (by simp) only_nil))⟩ ?_
  rintro q st ⟨ts, v, Hc, z, rfl, hz, hz2, hne, hc8, htl, htc, hg, a1, hs2⟩
  refine awp_sub hs2 ?_
  clear hs2 st
  repeat' first
    | refine aSq ?_ | refine aRt ?_ | refine aSk ?_ | refine aBl ?_ | refine tN ?_ | refine tR ?_ | refine iR ?_
    | (refine rg 2 ?_; refine tk 2 ?_; refine fc en169 ?_; refine (sf169 hl (x := z) (by omega) (by omega)).mono ?_; rintro r H1 ⟨rfl, s1, rfl, hs1⟩; refine tk 5 ?_; refine dn ?_)
    | refine ru ?_
    | (refine awp_if rfl (fun hb => ?_) (fun hb => ?_) <;> (try simp at hb) <;> (try (first | have hlt := key_lt hb | have hlt := name_lt hb)) <;> (try (exfalso; omega)))
    | fail
  · exact ⟨hg, _, by simp; exact .tuple (.cons (.nilShut 1) (.cons (.refl _) (.cons (.refl _) .nil))), [], z, 6, rfl, hz, hz2, trivial, by simp; omega, by simp [Tr.cnts]; omega⟩
  refine awp_loop_inv (fun q st => ∃ j : Nat, q = ts.length - j ∧ j ≤ ts.length ∧ Sub st ⟨73, [(0, .sl 4 (toks l) own), (1, .int .i64 z), (7, v), (8, .str s1), (10, .int .i64 j)], H1⟩) ts.length
    ⟨0, by simp, by simp, rfl, rfl, only_cons (by simp) (only_cons (by simp) (only_cons (by simp) (only_cons (by simp) (only_cons (by simp) only_nil))))⟩ ?_
  rintro q st ⟨j, rfl, hj, hs2⟩
  refine awp_sub hs2 ?_
  clear hs2 st
  have hvl : lenA tab 41 v = some (.int .i64 ts.length) := by rw [a1.len tab41]; simp
  rcases Nat.lt_or_ge j ts.length with hlt2 | hge2
  · obtain ⟨s0, u0, e0⟩ := hc8 _ (List.getElem_mem hlt2)
    have hel : elemA tab 41 v (.int .i64 j) = some (.ptr [(Tr.node 8 0 s0 [] [u0]).av]) := by
      rw [a1.elem 41 (by simpa using hlt2) .shut]
      simp [hlt2, e0]
    simp only [Tr.av] at hel
    repeat' first
      | refine aSq ?_ | refine aRt ?_ | refine aSk ?_ | refine aBl ?_ | refine tN ?_ | refine tR ?_ | refine iR ?_
      | (refine ru ?_ (by simp (disch := omega) [hvl, hel, -elemA]; with_reducible rfl))
      | (refine awp_if rfl (fun hb => ?_) (fun hb => ?_) <;> (try simp at hb) <;> try (exfalso; omega))
      | fail
    · exact ⟨hg, _, by simp; exact .tuple (.cons (.nilShut 1) (.cons (.refl _) (.cons (.refl _) .nil))), [], z, 9, rfl, by omega, by omega, trivial, by simp; omega, by simp [Tr.cnts]; omega⟩
    · exact ⟨ts.length - (j + 1), by omega, j + 1, rfl, by omega, rfl, rfl, only_cons (by simp) (only_cons (by simp) (only_cons (by simp) (only_cons (by simp) (only_cons (by simp (disch := omega)) only_nil))))⟩
  · repeat' first
      | refine aSq ?_ | refine aRt ?_ | refine aSk ?_ | refine aEx ?_ | refine tN ?_ | refine tR ?_ | refine iR ?_
      | (refine rg 10 ?_; refine tk 3 ?_ (by simp (disch := omega) [hvl]; with_reducible rfl); refine fc en138 ?_; refine SF.then (sfk (by omega)) ?_; refine tk 1 ?_ (by simp (disch := omega) [hvl]; with_reducible rfl); refine dn ?_)
      | (refine rg 12 ?_; refine tk 3 ?_ (by simp (disch := omega) [hvl]; with_reducible rfl); refine fc en210 ?_; refine (T own _ _ (by omega) (by omega) (by omega)).mono ?_; rintro r H2 ⟨rfl, t2, y2, e2, rfl, hy2, hy2l, hn2, hc2, hd2⟩; refine tk 7 ?_ (by simp (disch := omega) [hvl]; with_reducible rfl); refine dn ?_)
      | (refine rg 15 ?_; refine aops_take 4 (mu := mu0) tab_ok (by simp; rfl) ?_; refine fc en32 ?_; refine SF.then (sf32 (l := [t2])) ?_; refine aops_take 1 (mu := mu0) tab_ok (by simp; rfl) ?_; obtain ⟨v', H', e3, a2, g2, o2⟩ := a1.append (T := tab) hg (x := .sl 1 [[(Tr.node 8 0 s1 [] [t2]).av]] .capped) (fs := [[(Tr.node 8 0 s1 [] [t2]).av]]) (t := 41) (e := 22) tab41 tab22 rfl (by decide) (by simp) (by simp) (by simp; omega); refine aops_take 2 (mu := mu0) tab_ok (by simp [e3]; rfl) ?_; refine dn ?_)
      | (refine rg 16 ?_; refine tk 2 ?_ (by simp (disch := omega) [hvl]; with_reducible rfl); refine fc en138 ?_; refine SF.then (sfk (by omega)) ?_; refine tk 1 ?_ (by simp (disch := omega) [hvl]; with_reducible rfl); refine dn ?_)
      | (refine ru ?_ (by simp (disch := omega) [hvl]; with_reducible rfl))
      | (refine awp_if rfl (fun hb => ?_) (fun hb => ?_) <;> (try simp at hb) <;> (try (first | have hlt := key_lt hb | have hlt := name_lt hb)) <;> (try (exfalso; omega)))
      | refine inN ?_
    · exact ⟨hg, _, by simp; exact .tuple (.cons (.nilShut 1) (.cons (.refl _) (.cons (.refl _) .nil))), [], z + 1, 6, rfl, by omega, by omega, trivial, by simp; omega, by simp [Tr.cnts]; omega⟩
    · exact ⟨hg, _, by simp; exact .tuple (.cons (.nilShut 1) (.cons (.refl _) (.cons (.refl _) .nil))), [], y2, e2, rfl, by omega, by omega, trivial, by simp; omega, by simp [Tr.cnts]; omega⟩
    all_goals
      (have hn8 : (Tr.node 8 0 s1 [] [t2]).neat := neatN hs1 (by simp) ⟨hn2, trivial⟩
       have hna := neats_append hne (show Tr.neats [Tr.node 8 0 s1 [] [t2]] from ⟨hn8, trivial⟩)
       have hca : (Tr.cnts (ts ++ [Tr.node 8 0 s1 [] [t2]]) : Int) = Tr.cnts ts + (1 + t2.cnt) := by rw [cnts_append]; simp [Tr.cnts, Tr.cnt]
       have e5 : Tr.avs ts ++ [[(Tr.node 8 0 s1 [] [t2]).av]] = Tr.avs (ts ++ [Tr.node 8 0 s1 [] [t2]]) := by rw [avs_append]; rfl
       rw [e5] at a2
       have h8 : Cons8 (ts ++ [Tr.node 8 0 s1 [] [t2]]) := by
         intro t ht
         rcases List.mem_append.1 ht with h | h
         · exact hc8 t h
         · simp only [List.mem_singleton] at h
           exact ⟨s1, t2, h⟩)
    · have q := a2.le'
      simp only [Tr.cln_avs] at q
      exact ⟨g2, _, by simp; exact .tuple (.cons q (.cons (.refl _) (.cons (.refl _) .nil))), ts ++ [Tr.node 8 0 s1 [] [t2]], y2, 0, rfl, by omega, by omega, hna, by simp; omega, by omega⟩
    · refine ⟨((l.length : Int) - (y2 + 1)).toNat, by omega, ts ++ [Tr.node 8 0 s1 [] [t2]], v', H', y2 + 1, rfl, by omega, by omega, hna, h8, by simp; omega, by omega, g2, a2, rfl, rfl, only_cons (by simp) (only_cons (by simp (disch := omega)) (only_cons (by simp) only_nil))⟩
theorem p_types {l : List Tok} (hl : TokOKs l) : ∀ (N : Nat), PT W0 225 l (N - 1) ∧ PT W0 216 l (N - 1) ∧ PT W0 210 l (N - 1) ∧ PL W0 194 l (N - 1)
  | 0 => by
    refine ⟨?_, ?_, ?_, ?_⟩
    all_goals
      (intro own x H h1 h2 h3
       simp at h3
       omega)
  | N + 1 => by
    have ih := p_types hl N
    have e : ((N + 1 : Nat) : Int) - 1 = N := by omega
    rw [e]
    have a := p225 (N := N) hl ih.2.2.1 ih.2.2.2
    have b := p216 hl a ih.2.1
    have c := p210 hl b ih.2.2.1
    exact ⟨a, b, c, p194 hl ih.2.2.1⟩
def PTA (W0 : World) (f : FuncId) (l : List Tok) : Prop := ∀ N, PT W0 f l N
def PLA (W0 : World) (f : FuncId) (l : List Tok) : Prop := ∀ N, PL W0 f l N
theorem PT.all {f : FuncId} {l : List Tok} (h : ∀ N : Nat, PT W0 f l (N - 1)) : PTA W0 f l := fun N own x H h1 h2 h3 => h (l.length + 1) own x H h1 h2 (by omega)
theorem PL.all {f : FuncId} {l : List Tok} (h : ∀ N : Nat, PL W0 f l (N - 1)) : PLA W0 f l := fun N own x H h1 h2 h3 => h (l.length + 1) own x H h1 h2 (by omega)
theorem p210a {l : List Tok} (hl : TokOKs l) : PTA W0 210 l := PT.all fun N => (p_types hl N).2.2.1
theorem p194a {l : List Tok} (hl : TokOKs l) : PLA W0 194 l := PL.all fun N => (p_types hl N).2.2.2
theorem p195 {l : List Tok} (hl : TokOKs l) : PTA W0 195 l := by
  intro N own x H hx hx2 hN
  have hln := hl.1
  refine SF.pureLe (sf_start [4, 5, 6] 31 Tryz.func195 rfl rfl rfl (by decide) (by simp) ?_)
  repeat' first
    | refine aSq ?_ | refine aRt ?_ | refine aSk ?_ | refine tN ?_ | refine tR ?_
    | (refine rg 1 ?_; refine tk 2 ?_; (first | (refine te (fun hb => ?_) (fun hb => ?_) <;> (try simp at hb) <;> try (exfalso; omega)) | (refine tk 1 ?_)); all_goals (refine tk 5 ?_; refine dn ?_))
    | (refine rg 3 ?_; refine tk 2 ?_; refine fc en210 ?_; refine (p210a hl N own _ _ (by omega) (by omega) (by omega)).mono ?_; rintro r H1 ⟨rfl, t2, y2, e2, rfl, hy2, hy2l, hn2, hc2, hd2⟩; refine tk 7 ?_; refine dn ?_)
    | refine ru ?_
    | (refine awp_if rfl (fun hb => ?_) (fun hb => ?_) <;> (try simp at hb) <;> try (exfalso; omega))
    | fail
  all_goals simp [retQ]
  all_goals first
    | exact ⟨_, .refl _, resN (by omega) (by omega) (by omega)⟩
    | exact ⟨_, .refl _, resT _ _ _ (by omega) (by omega) (by assumption) (by omega) (by omega)⟩
theorem p171 {l : List Tok} (hl : TokOKs l) : PLA W0 171 l := by
  intro N own x H hx hx2 hN
  have hln := hl.1
  refine SF.pureLe (sf_start [4, 5, 6] 21 Tryz.func171 rfl rfl rfl (by decide) (by simp) ?_)
  repeat' first
    | refine aSq ?_ | refine aRt ?_ | refine aSk ?_ | refine tN ?_
    | (refine rg 1 ?_; refine tk 2 ?_; (first | (refine te (fun hb => ?_) (fun hb => ?_) <;> (try simp at hb) <;> try (exfalso; omega)) | (refine tk 1 ?_)); all_goals (refine tk 5 ?_; refine dn ?_))
    | (refine rg 3 ?_; refine tk 2 ?_; refine fc en194 ?_; refine (p194a hl N own _ _ (by omega) (by omega) (by omega)).mono ?_; rintro r H1 ⟨rfl, ts, y2, e2, rfl, hy2, hy2l, hn2, hk2, hc2⟩; refine tk 6 ?_; refine dn ?_)
    | refine ru ?_
    | (refine awp_if rfl (fun hb => ?_) (fun hb => ?_) <;> (try simp at hb) <;> try (exfalso; omega))
    | fail
  exact ⟨Gr.refl _, _, by simp, ts, y2, e2, rfl, hy2, hy2l, hn2, hk2, hc2⟩
end Go.Av
namespace Go.Av
open Go.Proofs
variable {W0 : World}
set_option maxRecDepth 10000
set_option maxHeartbeats 4000000
theorem sf32_1 {kind : Int} {name : Str} {t : Tr} {own : Own} {H : Hp} : SF Tryz.prog W0 32 [.int .i64 kind, .str name, .sl 1 [[t.av]] own] H fun r H' => H' = H ∧ r = (Tr.node kind 0 name [] [t]).av := sf32 (l := [t])
theorem sf32_2 {kind : Int} {name : Str} {t u : Tr} {own : Own} {H : Hp} : SF Tryz.prog W0 32 [.int .i64 kind, .str name, .sl 1 [[t.av], [u.av]] own] H fun r H' => H' = H ∧ r = (Tr.node kind 0 name [] [t, u]).av := sf32 (l := [t, u])
theorem sf32_3 {kind : Int} {name : Str} {t u v : Tr} {own : Own} {H : Hp} : SF Tryz.prog W0 32 [.int .i64 kind, .str name, .sl 1 [[t.av], [u.av], [v.av]] own] H fun r H' => H' = H ∧ r = (Tr.node kind 0 name [] [t, u, v]).av := sf32 (l := [t, u, v])
theorem sf32_app {kind : Int} {name : Str} {H0 H : Hp} {ts : List Tr} {v : AV} (h : App H0 H 1 (Tr.avs ts) v) : SF Tryz.prog W0 32 [.int .i64 kind, .str name, v] H fun r H' => H' = H ∧ r = (Tr.node kind 0 name [] ts).av :=
  SF.args (args' := [.int .i64 kind, .str name, .sl 1 (Tr.avs ts) .shut]) (.cons (.refl _) (.cons (.refl _) (.cons h.le .nil))) sf32
def ResK (l : List Tok) (x : Int) (n : Nat) (r : AV) : Prop := ∃ (y e : Int), r = .tuple [.int .i64 y, .int .i64 e] ∧ x ≤ y ∧ y ≤ l.length ∧ (e = 0 → y = x + n)
theorem skeys {l : List Tok} {own o2 : Own} {x : Int} {ws : List Str} {H : Hp} (hl : TokOKs l) (hx : 0 ≤ x) (hx2 : x ≤ l.length) (hw : ws.length ≤ 100) :
    SF Tryz.prog W0 223 [.sl 4 (toks l) own, .int .i64 x, .sl 1 (strs ws) o2] H fun r H' => H' = H ∧ ResK l x ws.length r := by
  have hln := hl.1
  have h := sf223 (W0 := W0) (l := l) (own := own) (o2 := o2) (i := x.toNat) (ws := ws) (H := H) (by omega) (by omega) (by omega)
  rw [Int.toNat_of_nonneg hx] at h
  refine h.mono ?_
  rintro r H' ⟨rfl, i', e, rfl, h1, h2, h3, h4⟩
  exact ⟨rfl, i', e, rfl, by omega, by have := h4 (by omega); omega, fun he => by have := h3 he; omega⟩
theorem skeys1 {l : List Tok} {own o2 : Own} {x : Int} {s : Str} {H : Hp} (hl : TokOKs l) (hx : 0 ≤ x) (hx2 : x ≤ l.length) : SF Tryz.prog W0 223 [.sl 4 (toks l) own, .int .i64 x, .sl 1 [[.str s]] o2] H fun r H' => H' = H ∧ ResK l x 1 r := skeys (ws := [s]) hl hx hx2 (by simp)
theorem skeys2 {l : List Tok} {own o2 : Own} {x : Int} {s u : Str} {H : Hp} (hl : TokOKs l) (hx : 0 ≤ x) (hx2 : x ≤ l.length) : SF Tryz.prog W0 223 [.sl 4 (toks l) own, .int .i64 x, .sl 1 [[.str s], [.str u]] o2] H fun r H' => H' = H ∧ ResK l x 2 r := skeys (ws := [s, u]) hl hx hx2 (by simp)
theorem skeys0 {l : List Tok} {own : Own} {x : Int} {H : Hp} (hl : TokOKs l) (hx : 0 ≤ x) (hx2 : x ≤ l.length) : SF Tryz.prog W0 223 [.sl 4 (toks l) own, .int .i64 x, .slnil] H fun r H' => H' = H ∧ ResK l x 0 r :=
  SF.args (args' := [.sl 4 (toks l) own, .int .i64 x, .sl 1 (strs []) .shut]) (.cons (.refl _) (.cons (.refl _) (.cons (.nilShut 1) .nil))) (skeys (ws := []) hl hx hx2 (by simp))
def ResN (l : List Tok) (x : Int) (n : Nat) (r : AV) : Prop := ∃ (s : Str) (y e : Int), r = .tuple [.str s, .int .i64 y, .int .i64 e] ∧ s.length ≤ 67108863 ∧ x ≤ y ∧ y ≤ l.length ∧ (e = 0 → y = x + 1 + n)
theorem p218g {l : List Tok} {own : Own} {x : Int} {n : Nat} {b : AV} {H : Hp} (hl : TokOKs l) (hx : 0 ≤ x) (hx2 : x ≤ l.length)
    (hk : ∀ (own : Own) (x : Int) (H : Hp), 0 ≤ x → x ≤ l.length → SF Tryz.prog W0 223 [.sl 4 (toks l) own, .int .i64 x, b] H fun r H' => H' = H ∧ ResK l x n r) :
    SF Tryz.prog W0 218 [.sl 4 (toks l) own, .int .i64 x, b] H fun r H' => H' = H ∧ ResN l x n r := by
  refine SF.pureLe (sf_start [6, 7, 8] 32 Tryz.func218 rfl rfl rfl (by decide) (by simp) ?_)
  have hln := hl.1
  repeat' first
    | refine aSq ?_ | refine aRt ?_ | refine aSk ?_ | refine tN ?_ | refine tR ?_
    | (refine rg 1 ?_; refine tk 2 ?_; refine fc en169 ?_; refine (sf169 hl hx (by omega)).mono ?_; rintro r H1 ⟨rfl, s1, rfl, hs1⟩; refine tk 5 ?_; refine dn ?_)
    | (refine rg 4 ?_; refine tk 4 ?_; refine fc en223 ?_; refine (hk _ _ _ (by omega) (by omega)).mono ?_; rintro r H2 ⟨rfl, y2, e2, rfl, hy2, hy2l, hd2⟩; refine tk 5 ?_; refine dn ?_)
    | refine ru ?_
    | (refine awp_if rfl (fun hb => ?_) (fun hb => ?_) <;> (try simp at hb) <;> (try (have hlt := name_lt hb)) <;> (try (exfalso; omega)))
    | fail
  · exact ⟨Gr.refl _, .tuple [.str [], .int .i64 x, .int .i64 6], by simp, [], x, 6, rfl, by simp, by omega, by omega, by omega⟩
  · exact ⟨Gr.refl _, .tuple [.str s1, .int .i64 y2, .int .i64 e2], by simp, s1, y2, e2, rfl, hs1, by omega, by omega, by omega⟩
theorem p218_0 {l : List Tok} {own : Own} {x : Int} {H : Hp} (hl : TokOKs l) (hx : 0 ≤ x) (hx2 : x ≤ l.length) : SF Tryz.prog W0 218 [.sl 4 (toks l) own, .int .i64 x, .slnil] H fun r H' => H' = H ∧ ResN l x 0 r := p218g hl hx hx2 fun _ _ _ h1 h2 => skeys0 hl h1 h2
theorem p218_1 {l : List Tok} {own o2 : Own} {x : Int} {s : Str} {H : Hp} (hl : TokOKs l) (hx : 0 ≤ x) (hx2 : x ≤ l.length) : SF Tryz.prog W0 218 [.sl 4 (toks l) own, .int .i64 x, .sl 1 [[.str s]] o2] H fun r H' => H' = H ∧ ResN l x 1 r := p218g hl hx hx2 fun _ _ _ h1 h2 => skeys1 hl h1 h2
theorem p219g {l : List Tok} {N : Int} {own : Own} {x : Int} {n : Nat} {b : AV} {H : Hp} (hl : TokOKs l) (E : PT W0 211 l N) (hx : 0 ≤ x) (hx2 : x ≤ l.length) (hN : (l.length : Int) - x ≤ N)
    (hk : ∀ (own : Own) (x : Int) (H : Hp), 0 ≤ x → x ≤ l.length → SF Tryz.prog W0 223 [.sl 4 (toks l) own, .int .i64 x, b] H fun r H' => H' = H ∧ ResK l x n r) :
    SF Tryz.prog W0 219 [.sl 4 (toks l) own, .int .i64 x, b] H fun r H' => H' = H ∧ ResT l x r := by
  refine SF.pureLe (sf_start [6, 7, 8] 32 Tryz.func219 rfl rfl rfl (by decide) (by simp) ?_)
  have hln := hl.1
  repeat' first
    | refine aSq ?_ | refine aRt ?_ | refine aSk ?_ | refine tN ?_ | refine tR ?_
    | (refine rg 1 ?_; refine tk 2 ?_; refine fc en211 ?_; refine (E own _ _ (by omega) (by omega) (by omega)).mono ?_; rintro r H1 ⟨rfl, t1, y1, e1, rfl, hy1, hy1l, hn1, hc1, hd1⟩; refine tk 7 ?_; refine dn ?_)
    | (refine rg 4 ?_; refine tk 3 ?_; refine fc en223 ?_; refine (hk _ _ _ (by omega) (by omega)).mono ?_; rintro r H2 ⟨rfl, y2, e2, rfl, hy2, hy2l, hd2⟩; refine tk 5 ?_; refine dn ?_)
    | refine ru ?_
    | (refine awp_if rfl (fun hb => ?_) (fun hb => ?_) <;> (try simp at hb) <;> try (exfalso; omega))
    | fail
  all_goals simp [retQ]
  all_goals first
    | exact ⟨_, .refl _, resN (by omega) (by omega) (by omega)⟩
    | exact ⟨_, .refl _, resT _ _ _ (by omega) (by omega) (by assumption) (by omega) (by omega)⟩
theorem p221g {l : List Tok} {own : Own} {x : Int} {n : Nat} {b : AV} {H : Hp} (hl : TokOKs l) (hx : 0 ≤ x) (hx2 : x ≤ l.length)
    (hk : ∀ (own : Own) (x : Int) (H : Hp), 0 ≤ x → x ≤ l.length → SF Tryz.prog W0 223 [.sl 4 (toks l) own, .int .i64 x, b] H fun r H' => H' = H ∧ ResK l x n r) :
    SF Tryz.prog W0 221 [.sl 4 (toks l) own, .int .i64 x, b] H fun r H' => H' = H ∧ ResT l x r := by
  refine SF.pureLe (sf_start [6, 7, 8] 32 Tryz.func221 rfl rfl rfl (by decide) (by simp) ?_)
  have hln := hl.1
  repeat' first
    | refine aSq ?_ | refine aRt ?_ | refine aSk ?_ | refine tN ?_ | refine tR ?_
    | (refine rg 1 ?_; refine tk 2 ?_; refine fc en195 ?_; refine (p195 hl (l.length : Int) own _ _ (by omega) (by omega) (by omega)).mono ?_; rintro r H1 ⟨rfl, t1, y1, e1, rfl, hy1, hy1l, hn1, hc1, hd1⟩; refine tk 7 ?_; refine dn ?_)
    | (refine rg 4 ?_; refine tk 3 ?_; refine fc en223 ?_; refine (hk _ _ _ (by omega) (by omega)).mono ?_; rintro r H2 ⟨rfl, y2, e2, rfl, hy2, hy2l, hd2⟩; refine tk 5 ?_; refine dn ?_)
    | refine ru ?_
    | (refine awp_if rfl (fun hb => ?_) (fun hb => ?_) <;> (try simp at hb) <;> try (exfalso; omega))
    | fail
  all_goals simp [retQ]
  all_goals first
    | exact ⟨_, .refl _, resN (by omega) (by omega) (by omega)⟩
    | exact ⟨_, .refl _, resT _ _ _ (by omega) (by omega) (by assumption) (by omega) (by omega)⟩
theorem p219_1 {l : List Tok} {N : Int} {own o2 : Own} {x : Int} {s : Str} {H : Hp} (hl : TokOKs l) (E : PT W0 211 l N) (hx : 0 ≤ x) (hx2 : x ≤ l.length) (hN : (l.length : Int) - x ≤ N) : SF Tryz.prog W0 219 [.sl 4 (toks l) own, .int .i64 x, .sl 1 [[.str s]] o2] H fun r H' => H' = H ∧ ResT l x r := p219g hl E hx hx2 hN fun _ _ _ h1 h2 => skeys1 hl h1 h2
theorem p221_1 {l : List Tok} {own o2 : Own} {x : Int} {s : Str} {H : Hp} (hl : TokOKs l) (hx : 0 ≤ x) (hx2 : x ≤ l.length) : SF Tryz.prog W0 221 [.sl 4 (toks l) own, .int .i64 x, .sl 1 [[.str s]] o2] H fun r H' => H' = H ∧ ResT l x r := p221g hl hx hx2 fun _ _ _ h1 h2 => skeys1 hl h1 h2
theorem p221_2 {l : List Tok} {own o2 : Own} {x : Int} {s u : Str} {H : Hp} (hl : TokOKs l) (hx : 0 ≤ x) (hx2 : x ≤ l.length) : SF Tryz.prog W0 221 [.sl 4 (toks l) own, .int .i64 x, .sl 1 [[.str s], [.str u]] o2] H fun r H' => H' = H ∧ ResT l x r := p221g hl hx hx2 fun _ _ _ h1 h2 => skeys2 hl h1 h2
end Go.Av
namespace Go.Av
open Go.Proofs
variable {W0 : World}
set_option maxRecDepth 10000
set_option maxHeartbeats 4000000
theorem p217 {l : List Tok} {N : Int} (hl : TokOKs l) (E : PT W0 211 l N) : PT W0 217 l N := by
  intro own x H hx hx2 hN
  have hln := hl.1
  refine SF.pureLe (sf_start [4, 5, 6] 60 Tryz.func217 rfl rfl rfl (by decide) (by simp) ?_)
  repeat' first
    | refine aSq ?_ | refine aRt ?_ | refine aSk ?_ | refine tN ?_ | refine tR ?_
    | (refine rg 1 ?_; refine tk 3 ?_; refine fc en223 ?_; refine (skeys1 hl (by omega) (by omega)).mono ?_; rintro r H2 ⟨rfl, y2, e2, rfl, hy2, hy2l, hd2⟩; refine tk 5 ?_; refine dn ?_)
    | (refine rg 4 ?_; refine tk 3 ?_; refine fc en218 ?_; refine (p218_1 hl (by omega) (by omega)).mono ?_; rintro r H3 ⟨rfl, s3, y3, e3, rfl, hs3, hy3, hy3l, hd3⟩; refine tk 7 ?_; refine dn ?_)
    | (refine rg 7 ?_; refine tk 3 ?_; refine fc en221 ?_; refine (p221_2 hl (by omega) (by omega)).mono ?_; rintro r H4 ⟨rfl, t4, y4, e4, rfl, hy4, hy4l, hn4, hc4, hd4⟩; refine tk 7 ?_; refine dn ?_)
    | (refine rg 10 ?_; refine tk 2 ?_; refine fc en211 ?_; refine (E own _ _ (by omega) (by omega) (by omega)).mono ?_; rintro r H1 ⟨rfl, t1, y1, e1, rfl, hy1, hy1l, hn1, hc1, hd1⟩; refine tk 7 ?_; refine dn ?_)
    | (refine rg 11 ?_; refine tk 4 ?_; refine fc en32 ?_; refine SF.then sf32_2 ?_; refine tk 5 ?_; refine dn ?_)
    | refine ru ?_
    | (refine awp_if rfl (fun hb => ?_) (fun hb => ?_) <;> (try simp at hb) <;> try (exfalso; omega))
    | fail
  all_goals simp [retQ]
  all_goals first
    | exact ⟨_, .refl _, resN (by omega) (by omega) (by omega)⟩
    | exact ⟨_, .refl _, resT _ _ _ (by omega) (by omega) (by first | assumption | exact neatN hs3 (by simp) ⟨hn4, hn1, trivial⟩) (by first | omega | (simp only [Tr.cnt, Tr.cnts]; omega)) (by first | omega | (simp only [Tr.cnt, Tr.cnts]; omega))⟩
theorem App.weak {H0 H : Hp} {sz : Nat} {es es' : List (List AV)} {v : AV} (h : App H0 H sz es v) (k : LeLL es es') : ∃ v', Le v v' ∧ App H0 H sz es' v' := by
  rcases h.is with ⟨rfl, rfl⟩ | rfl | ⟨q, h1, rfl, h3⟩
  · cases k; exact ⟨.slnil, .refl _, ⟨.inl ⟨rfl, rfl⟩⟩⟩
  · exact ⟨.sl sz es' .capped, .sl k (.inl rfl), ⟨.inr (.inl rfl)⟩⟩
  · have hl : es.length = es'.length := k.length.symm
    exact ⟨.sl sz es' (.tok q), .sl k (.inl rfl), ⟨.inr (.inr ⟨q, h1, rfl, by rw [← hl]; exact h3⟩)⟩⟩
theorem p220 {l : List Tok} {N : Int} (hl : TokOKs l) (E : PT W0 211 l (N - 1)) : PL W0 220 l N := by
  intro own x H hx hx2 hN
  have hln := hl.1
  refine SF.pureLe (sf_start [4, 5, 6] 72 Tryz.func220 rfl rfl rfl (by decide) (by simp) ?_)
  repeat' first
    | refine aSq ?_ | refine aBl ?_
    | refine ru ?_
    | fail
  refine awp_loop_inv (fun q st => ∃ (ts : List Tr) (v : AV) (Hc : Hp) (z : Int), q = ((l.length : Int) - z).toNat ∧ x ≤ z ∧ z ≤ l.length ∧ Tr.neats ts ∧ (ts.length : Int) ≤ z - x ∧ (Tr.cnts ts : Int) ≤ 2 * (z - x) ∧ Gr H Hc ∧ App H Hc 1 (Tr.avs ts) v ∧
    Sub st ⟨72, [(0, .sl 4 (toks l) own), (1, .int .i64 z), (7, v)], Hc⟩) ((l.length : Int) - x).toNat
    ⟨[], .slnil, H, x, rfl, by omega, hx2, trivial, by simp, by simp [Tr.cnts], Gr.refl _, App.slnil _ _ _, rfl, rfl, only_cons (by simp) (only_cons (by simp) (only_cons (by simp) only_nil))⟩ ?_
  rintro q st ⟨ts, v, Hc, z, rfl, hz, hz2, hne, htl, htc, hg, a1, hs2⟩
  refine awp_sub hs2 ?_
  clear hs2 st
  repeat' first
    | refine aSq ?_ | refine aRt ?_ | refine aSk ?_ | refine aBl ?_ | refine tN ?_ | refine tR ?_ | refine iR ?_
    | (refine rg 2 ?_; refine tk 2 ?_; refine fc en218 ?_; (first | (refine (p218_0 hl (by omega) (by omega)).mono ?_; rintro r H3 ⟨rfl, s3, y3, e3, rfl, hs3, hy3, hy3l, hd3⟩) | (refine (p218_1 hl (by omega) (by omega)).mono ?_; rintro r H4 ⟨rfl, s4, y4, e4, rfl, hs4, hy4, hy4l, hd4⟩)); refine tk 7 ?_; refine dn ?_)
    | (refine rg 5 ?_; refine tk 3 ?_; refine fc en218 ?_; (first | (refine (p218_0 hl (by omega) (by omega)).mono ?_; rintro r H3 ⟨rfl, s3, y3, e3, rfl, hs3, hy3, hy3l, hd3⟩) | (refine (p218_1 hl (by omega) (by omega)).mono ?_; rintro r H4 ⟨rfl, s4, y4, e4, rfl, hs4, hy4, hy4l, hd4⟩)); refine tk 7 ?_; refine dn ?_)
    | (refine rg 8 ?_; refine tk 2 ?_; refine fc en211 ?_; refine (E own _ _ (by omega) (by omega) (by omega)).mono ?_; rintro r H1 ⟨rfl, t1, y1, e1, rfl, hy1, hy1l, hn1, hc1, hd1⟩; refine tk 7 ?_; refine dn ?_)
    | (refine rg 11 ?_; refine aops_take 8 (mu := mu0) tab_ok (by simp; rfl) ?_; obtain ⟨v', H', e5, a2, g2, o2⟩ := a1.append (T := tab) hg (x := .sl 1 [[.ptr [.int .i64 34, .int .i64 0, .str s3, .str s4, .sl 1 [[t1.av]] .capped]]] .capped) (fs := [[.ptr [.int .i64 34, .int .i64 0, .str s3, .str s4, .sl 1 [[t1.av]] .capped]]]) (t := 41) (e := 22) tab41 tab22 rfl (by decide) (by simp) (by simp) (by simp; omega); refine aops_take 2 (mu := mu0) tab_ok (by simp [e5]; rfl) ?_; refine dn ?_; refine thenN ?_; obtain ⟨v2, le2, a3⟩ := a2.weak (es' := Tr.avs (ts ++ [.node 34 0 s3 s4 [t1]])) (by rw [avs_append]; exact LeLL.append (LeLL.refl _) (.cons (.cons (.ptr (.cons (.refl _) (.cons (.refl _) (.cons (.refl _) (.cons (.refl _) (.cons (.shut _ _ _) .nil)))))) .nil) .nil)); refine awp_only [(0, .sl 4 (toks l) own), (9, .int .i64 y1), (7, v2)] (only_cons (by simp) (only_cons (by simp) (only_cons (by simpa using le2) only_nil))) ?_)
    | (refine rg 12 ?_; refine tk 2 ?_; refine fc en138 ?_; refine SF.then (sfk (by omega)) ?_; refine tk 1 ?_; refine dn ?_)
    | (refine rg 13 ?_; refine tk 3 ?_; refine fc en223 ?_; refine (skeys1 hl (by omega) (by omega)).mono ?_; rintro r H2 ⟨rfl, y2, e2, rfl, hy2, hy2l, hd2⟩; refine tk 5 ?_; refine dn ?_)
    | refine ru ?_
    | (refine awp_if rfl (fun hb => ?_) (fun hb => ?_) <;> (try simp at hb) <;> (try (have hlt := key_lt hb)) <;> (try (exfalso; omega)))
    | refine inN ?_
  · exact ⟨hg, _, by simp; exact .tuple (.cons (.nilShut 1) (.cons (.refl _) (.cons (.refl _) .nil))), [], y3, e3, rfl, by omega, by omega, trivial, by simp; omega, by simp [Tr.cnts]; omega⟩
  · exact ⟨hg, _, by simp; exact .tuple (.cons (.nilShut 1) (.cons (.refl _) (.cons (.refl _) .nil))), [], y4, e4, rfl, by omega, by omega, trivial, by simp; omega, by simp [Tr.cnts]; omega⟩
  · exact ⟨hg, _, by simp; exact .tuple (.cons (.nilShut 1) (.cons (.refl _) (.cons (.refl _) .nil))), [], y1, e1, rfl, by omega, by omega, trivial, by simp; omega, by simp [Tr.cnts]; omega⟩
  all_goals
    (have hn34 : (Tr.node 34 0 s3 s4 [t1]).neat := ⟨hs3, hs4, by simp, hn1, trivial⟩
     have hna := neats_append hne (show Tr.neats [Tr.node 34 0 s3 s4 [t1]] from ⟨hn34, trivial⟩)
     have hca : (Tr.cnts (ts ++ [Tr.node 34 0 s3 s4 [t1]]) : Int) = Tr.cnts ts + (1 + t1.cnt) := by rw [cnts_append]; simp [Tr.cnts, Tr.cnt])
  · have q := a3.le'
    simp only [Tr.cln_avs] at q
    exact ⟨g2, _, by simp; exact .tuple (.cons q (.cons (.refl _) (.cons (.refl _) .nil))), ts ++ [Tr.node 34 0 s3 s4 [t1]], y2, e2, rfl, by omega, by omega, hna, by simp; omega, by omega⟩
  · refine ⟨((l.length : Int) - (y1 + 1)).toNat, by omega, ts ++ [Tr.node 34 0 s3 s4 [t1]], v2, H', y1 + 1, rfl, by omega, by omega, hna, by simp; omega, by omega, g2, a3, rfl, rfl, only_cons (by simp) (only_cons (by simp (disch := omega)) (only_cons (by simp) only_nil))⟩
end Go.Av
namespace Go.Av
open Go.Proofs
variable {W0 : World}
set_option maxRecDepth 10000
set_option maxHeartbeats 4000000
theorem bool_or (b : Bool) {P : Prop} (h : P) : AV.bool b = .bool false ∨ AV.bool b = .bool true ∧ P := by cases b <;> simp [h]
theorem sf231 {l : List Tok} {own : Own} {x : Int} {H : Hp} (hl : TokOKs l) (hx : 0 ≤ x) (hx2 : x ≤ l.length) : SF Tryz.prog W0 231 [.sl 4 (toks l) own, .int .i64 x] H fun r H' => H' = H ∧ ∃ b : Bool, r = .bool b ∧ (b = true → x < l.length) := by
  obtain ⟨i, rfl⟩ := Int.eq_ofNat_of_zero_le hx
  have hln := hl.1
  refine SF.pureLe (sf_start [4] 60 Tryz.func231 rfl rfl rfl (by decide) (by simp) ?_)
  rcases Nat.lt_or_ge i l.length with hlt | hge
  · have htx := hl.2 l[i] (List.getElem_mem hlt)
    repeat' first
      | refine aSq ?_ | refine aRt ?_ | refine aSk ?_ | refine tN ?_ | refine tR ?_
      | (refine rg 5 ?_; refine tk 3 ?_; (first | (refine te (fun hb => ?_) (fun hb => ?_) <;> (try simp at hb) <;> try (exfalso; omega)) | (refine tk 1 ?_)); all_goals (refine tk 4 ?_; (first | (refine te (fun hb => ?_) (fun hb => ?_) <;> (try simp at hb) <;> try (exfalso; omega)) | (refine tk 1 ?_)); all_goals (refine tk 4 ?_; (first | (refine te (fun hb => ?_) (fun hb => ?_) <;> (try simp at hb) <;> try (exfalso; omega)) | (refine tk 1 ?_)); all_goals (refine tk 4 ?_; (first | (refine te (fun hb => ?_) (fun hb => ?_) <;> (try simp at hb) <;> try (exfalso; omega)) | (refine tk 1 ?_)); all_goals (refine tk 5 ?_; refine dn ?_)))))
      | (refine rg 7 ?_; refine tk 3 ?_; (first | (refine te (fun hb => ?_) (fun hb => ?_) <;> (try simp at hb) <;> try (exfalso; omega)) | (refine tk 1 ?_)); all_goals (refine tk 5 ?_; refine dn ?_))
      | (refine rg 8 ?_; refine tk 2 ?_; refine fc en170 ?_; refine (sf170 hl hx (by omega)).mono ?_; rintro r H1 ⟨rfl, s1, rfl, hs1⟩; refine tk 5 ?_; refine dn ?_)
      | refine ru ?_
      | (refine awp_if rfl (fun hb => ?_) (fun hb => ?_) <;> (try simp at hb) <;> try (exfalso; omega))
      | fail
    all_goals simp [retQ]
    all_goals exact ⟨(Gr.refl H).obj _, _, .refl _, bool_or _ hlt⟩
  · repeat' first
      | refine aSq ?_ | refine aRt ?_ | refine tN ?_ | refine tR ?_
      | refine ru ?_
      | (refine awp_if rfl (fun hb => ?_) (fun hb => ?_) <;> (try simp at hb) <;> try (exfalso; omega))
      | fail
    exact ⟨Gr.refl _, .bool false, by simp, false, rfl, by simp⟩
theorem p230 {l : List Tok} {N : Int} (hl : TokOKs l) (A : PT W0 230 l (N - 1)) (E : PT W0 211 l (N - 1)) : PT W0 230 l N := by
  intro own x H hx hx2 hN
  obtain ⟨i, rfl⟩ := Int.eq_ofNat_of_zero_le hx
  have hln := hl.1
  refine SF.pureLe (sf_start [4, 5, 6] 128 Tryz.func230 rfl rfl rfl (by decide) (by simp) ?_)
  rcases Nat.lt_or_ge i l.length with hlt | hge
  · have htx := hl.2 l[i] (List.getElem_mem hlt)
    repeat' first
      | refine aSq ?_ | refine aRt ?_ | refine aSk ?_ | refine tN ?_ | refine tR ?_
      | (refine rg 1 ?_; refine tk 2 ?_; refine fc en231 ?_; refine (sf231 hl hx hx2).mono ?_; rintro r H1 ⟨rfl, b0, rfl, hb0⟩; refine tk 1 ?_; refine dn ?_)
      | (refine rg 7 ?_; refine tk 2 ?_; refine fc en32 ?_; (first | refine SF.then sf32n ?_ | refine SF.then sf32_2 ?_ | refine SF.then sf32_1 ?_); refine tk 5 ?_; refine dn ?_)
      | (refine rg 11 ?_; refine fc en32 ?_; (first | refine SF.then sf32n ?_ | refine SF.then sf32_2 ?_ | refine SF.then sf32_1 ?_); refine tk 5 ?_; refine dn ?_)
      | (refine rg 12 ?_; refine tk 3 ?_; (first | (refine te (fun hb => ?_) (fun hb => ?_) <;> (try simp at hb) <;> (try (have hlt := key_lt hb)) <;> (try (exfalso; omega))) | (refine tk 1 ?_)); all_goals (refine tk 4 ?_; refine dn ?_))
      | (refine rg 13 ?_; refine tk 3 ?_; refine fc en230 ?_; refine (A own _ _ (by omega) (by omega) (by omega)).mono ?_; rintro r H1 ⟨rfl, t1, y1, e1, rfl, hy1, hy1l, hn1, hc1, hd1⟩; refine tk 7 ?_; refine dn ?_)
      | (refine rg 17 ?_; refine tk 3 ?_; refine fc en32 ?_; (first | refine SF.then sf32n ?_ | refine SF.then sf32_2 ?_ | refine SF.then sf32_1 ?_); refine tk 5 ?_; refine dn ?_)
      | (refine rg 18 ?_; refine tk 3 ?_; refine fc en138 ?_; refine SF.then (sfk (by omega)) ?_; refine dn ?_)
      | (refine rg 19 ?_; refine fc en32 ?_; (first | refine SF.then sf32n ?_ | refine SF.then sf32_2 ?_ | refine SF.then sf32_1 ?_); refine tk 5 ?_; refine dn ?_)
      | (refine rg 20 ?_; refine tk 3 ?_; refine fc en211 ?_; refine (E own _ _ (by omega) (by omega) (by omega)).mono ?_; rintro r H2 ⟨rfl, t2, y2, e2, rfl, hy2, hy2l, hn2, hc2, hd2⟩; refine tk 7 ?_; refine dn ?_)
      | (refine rg 23 ?_; refine tk 2 ?_; refine fc en138 ?_; refine SF.then (sfk (by omega)) ?_; refine dn ?_)
      | (refine rg 24 ?_; refine tk 4 ?_; refine fc en219 ?_; refine (p219_1 hl E (by omega) (by omega) (by omega)).mono ?_; rintro r H3 ⟨rfl, t3, y3, e3, rfl, hy3, hy3l, hn3, hc3, hd3⟩; refine tk 7 ?_; refine dn ?_)
      | (refine rg 25 ?_; refine tk 3 ?_; refine fc en32 ?_; (first | refine SF.then sf32n ?_ | refine SF.then sf32_2 ?_ | refine SF.then sf32_1 ?_); refine tk 5 ?_; refine dn ?_)
      | (refine rg 26 ?_; refine tk 3 ?_; refine fc en223 ?_; refine (skeys1 hl (by omega) (by omega)).mono ?_; rintro r H4 ⟨rfl, y4, e4, rfl, hy4, hy4l, hd4⟩; refine tk 5 ?_; refine dn ?_)
      | refine ru ?_
      | (refine awp_if rfl (fun hb => ?_) (fun hb => ?_) <;> (try simp at hb) <;> (try (have hlt := key_lt hb)) <;> (try (exfalso; omega)))
      | fail
    all_goals simp [retQ]
    all_goals first
      | exact ⟨_, .refl _, resN (by omega) (by omega) (by omega)⟩
      | exact ⟨(Gr.refl _).obj _, _, .refl _, resN (by omega) (by omega) (by omega)⟩
      | exact ⟨(Gr.refl _).obj _, _, .refl _, resT _ _ _ (by omega) (by omega) (by first | assumption | exact neatN (by first | assumption | simp) (by simp) (by first | trivial | exact ⟨by assumption, trivial⟩ | exact ⟨by assumption, by assumption, trivial⟩)) (by first | omega | (simp only [Tr.cnt, Tr.cnts]; omega)) (by first | omega | (simp only [Tr.cnt, Tr.cnts]; omega))⟩
      | exact ⟨(Gr.refl _).obj _, _, .tuple (.cons (.ptr (.cons (.refl _) (.cons (.refl _) (.cons (.refl _) (.cons (.refl _) (.cons (.nilShut 1) .nil)))))) (.cons (.refl _) (.cons (.refl _) .nil))), resT (.node _ _ [] [] []) _ _ (by omega) (by omega) (neatN (by simp) (by simp) trivial) (by simp only [Tr.cnt, Tr.cnts]; omega) (by simp only [Tr.cnt, Tr.cnts]; omega)⟩
  · repeat' first
      | refine aSq ?_ | refine aRt ?_ | refine aSk ?_ | refine tN ?_ | refine tR ?_
      | (refine rg 1 ?_; refine tk 2 ?_; refine fc en231 ?_; refine (sf231 hl hx hx2).mono ?_; rintro r H1 ⟨rfl, b0, rfl, hb0⟩; refine tk 1 ?_; refine dn ?_)
      | refine ru ?_
      | (refine awp_if rfl (fun hb => ?_) (fun hb => ?_) <;> (try simp at hb) <;> try (exfalso; omega))
      | fail
    · simp [retQ]
      exact ⟨_, .refl _, resN (by omega) (by omega) (by omega)⟩
    · exact absurd (hb0 hb) (by omega)
end Go.Av
