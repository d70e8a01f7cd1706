/-
  Go read by value: lemmas (part 16): D2, D3, D4, D5, D6, D7, D8, D9, D10, D11.
-/
import Derived.Test.YtdeocbficanfaaaGreatDoorZ12
import Derived.Test.YtdeocbficanfaaaGreatDoorZ15
set_option linter.unusedVariables false
set_option linter.unusedSimpArgs false
set_option linter.unusedSectionVars false
namespace Go.Av
open Go.Proofs
variable {W0 : World}
set_option maxRecDepth 10000
set_option maxHeartbeats 4000000
@[simp] theorem set_concat {α : Type} (l : List α) (x y : α) : (l ++ [x]).set l.length y = l ++ [y] := by
  rw [List.set_append_right _ _ (Nat.le_refl _)]; simp
@[simp] theorem get_concat {α : Type} (l : List α) (x : α) : (l ++ [x])[l.length]? = some x := by simp
structure PRow where
  k : Int
  n : Int
  a : Str
  b : Str
  ks : List Int
def PRow.av (r : PRow) : List AV := [.int .i64 r.k, .int .i64 r.n, .str r.a, .str r.b, .sl 1 (ints r.ks) .shut]
def prows (l : List PRow) : List (List AV) := l.map PRow.av
@[simp] theorem prows_len (l : List PRow) : (prows l).length = l.length := by simp [prows]
@[simp] theorem prows_ok (l : List PRow) : (prows l).all (fun x => x.all okCell) = true := by simp [prows, PRow.av]
@[simp] theorem prows_cln (n m : Nat) (l : List PRow) : clnLL n m (prows l) = prows l := clnLL_map (fun _ _ _ => by simp [PRow.av]) n m l
theorem prows_append (a b : List PRow) : prows (a ++ b) = prows a ++ prows b := by simp [prows]
theorem clnLL_append (n m : Nat) : ∀ a b : List (List AV), clnLL n m (a ++ b) = clnLL n m a ++ clnLL n m b
  | [], _ => rfl
  | x :: a, b => by simp [clnLL_append n m a b]
theorem sf115 : ∀ (N : Nat) (t : Tr) (first : Int) (H : Hp), t.cnt ≤ N → t.cnt ≤ 67108864 → t.slim → t.hole = false →
    SF Tryz.prog W0 115 [t.av, .int .i64 first] H fun r H' => H' = H ∧ ∃ rs : List PRow, r = .sl 5 (prows rs) .shut ∧ rs.length = t.cnt := by
  intro N
  induction N with
  | zero =>
    intro t first H hN hc hs hh
    cases t with
    | none => simp [Tr.hole] at hh
    | node k n a b l => simp [Tr.cnt] at hN
  | succ N ih =>
    intro t first H hN hc hs hh
    refine SF.pureLe (sf_start [4] 62 Tryz.func115 rfl rfl rfl (by decide) (by simp) ?_)
    cases t with
    | none => simp [Tr.hole] at hh
    | node k n a b l =>
      simp only [Tr.av]
      simp only [Tr.cnt] at hN hc
      simp only [Tr.slim] at hs
      simp only [Tr.hole] at hh
      repeat' first
        | refine aSq ?_ | refine aBl ?_
        | (refine dr 2 [(0, true), (1, true), (2, true), (3, true), (4, true), (5, true), (6, true), (7, true), (8, true), (9, true), (10, true), (11, true), (12, true), (13, true), (14, true), (15, true), (16, true), (17, false), (18, false)] [17, 18] ?_; refine dh 17 ?_; refine dx ?_)
        | refine ru ?_
        | fail
      refine awp_loop_inv (fun m st => ∃ (i : Nat) (es : List PRow) (ks : List Int) (v vk : AV) (Hc : Hp), m = l.length - i ∧ i ≤ l.length ∧ es.length = Tr.cnts (l.take i) ∧ ks.length = i ∧
        Hc.objs = H.objs ++ [.cells [.int .i64 k, .int .i64 n, .str a, .str b, vk]] ∧ Gr H Hc ∧ App H Hc 5 (prows es) v ∧ App H Hc 1 (ints ks) vk ∧ okCell vk = true ∧ Parted v vk ∧
        Sub st ⟨62, [(5, v), (6, .ref H.objs.length 0), (7, .int .i64 i), (0, (Tr.node k n a b l).av), (1, .int .i64 first)], Hc⟩) l.length
        ⟨0, [], [], .slnil, .slnil, _, by simp, by simp, by simp [Tr.cnts], by simp, rfl, (Gr.refl H).obj _, App.slnil _ _ _, App.slnil _ _ _, rfl, Parted.slnil _, rfl, rfl, only_cons (by simp) (only_cons (by simp) (only_cons (by simp) (only_cons (by simp [Tr.av]) (only_cons (by simp) only_nil))))⟩ ?_
      rintro m st ⟨i, es, ks, v, vk, Hc, rfl, hi, hel, hkl, hob, hg, a1, a2, hko, hpt, hs2⟩
      refine awp_sub hs2 ?_
      clear hs2 st
      have h1 := Tr.cnts_take_le l i
      have h3 : ∀ h : i < l.length, 1 + Tr.cnts (l.take i) + (l[i]).cnt ≤ 1 + Tr.cnts l := fun h => by
        have := Tr.cnts_take l i h; have := Tr.cnts_take_le l (i + 1); omega
      have hh2 : ∀ h : i < l.length, (l[i]).hole = false := fun h => by
        have h7 : ∀ (l : List Tr) (i : Nat) (h : i < l.length), Tr.holes l = false → (l[i]).hole = false := by
          intro l
          induction l with
          | nil => intro i h; simp at h
          | cons t l ih => intro i h hl; simp only [Tr.holes, Bool.or_eq_false_iff] at hl; cases i with
            | zero => exact hl.1
            | succ i => simpa using ih i (by simpa using h) hl.2
        exact h7 l i h hh
      simp only [Tr.av]
      repeat' first
        | refine aSq ?_ | refine aRt ?_ | refine aSk ?_ | refine aEx ?_ | refine aBl ?_ | refine tN ?_
        | (refine rg 6 ?_; refine aops_take 12 (mu := mu0) tab_ok (by simp (disch := omega) [a1.len tab137]; rfl) ?_; refine fc en115 ?_; have h4 := h3 (by assumption); refine (ih _ _ _ (by omega) (by omega) (Tr.slims_get _ _ _ hs.2) (hh2 (by assumption))).mono ?_; rintro r H1 ⟨rfl, fs, rfl, hfl⟩; obtain ⟨v', H', e1, b1, g1, ho1, b2, p1⟩ := a1.append2 (T := tab) hg (x := .sl 5 (prows fs) .shut) (fs := prows fs) (t := 137) (e := 192) tab137 tab192 rfl (by decide) (by simp) (by simp) (by simp; omega) a2 hpt; refine aops_take 2 (mu := mu0) tab_ok (by simp [e1]; rfl) ?_; refine dn ?_)
        | (refine rg 7 ?_; have ho2 : H'.objs = H.objs ++ [.cells [.int .i64 k, .int .i64 n, .str a, .str b, vk]] := ho1.trans hob; refine aops_take 7 (mu := mu0) tab_ok (by simp (disch := omega) [b1.len tab137, ho2, hko]; rfl) ?_; refine aops_take 1 (mu := mu0) tab_ok (by simp (disch := omega); rfl) ?_; obtain ⟨v2, H2, e2, c2, g2, hq2, c1, q1⟩ := b2.append2 (T := tab) g1 (x := .sl 1 [[.int .i64 (IntKind.i64.wrap (IntKind.i64.wrap (first + ((es.length : Int) + (fs.length : Int))) - 1))]] .capped) (fs := [[.int .i64 (IntKind.i64.wrap (IntKind.i64.wrap (first + ((es.length : Int) + (fs.length : Int))) - 1))]]) (t := 33) (e := 3) tab33 tab3 rfl (by decide) (by simp) (by simp) (by simp; omega) b1 p1.symm; refine aops_take 3 (mu := mu0) tab_ok (by simp [e2, hq2, ho2, c2.cells, c2.okc]; rfl) ?_; refine dn ?_)
        | (refine rg 8 ?_; refine aops_take 3 (mu := mu0) tab_ok (by simp [hob]; rfl) ?_; obtain ⟨v2, H2, e2, c2, g2, hq2⟩ := a1.append (T := tab) hg (x := .sl 5 [[.int .i64 k, .int .i64 n, .str a, .str b, vk]] .capped) (fs := [[.int .i64 k, .int .i64 n, .str a, .str b, vk]]) (t := 137) (e := 192) tab137 tab192 rfl (by decide) (by simp) (by simp [hko]) (by simp; omega); refine aops_take 2 (mu := mu0) tab_ok (by simp [e2]; rfl) ?_; refine dn ?_)
        | refine ru ?_
        | (refine awp_if rfl (fun hb => ?_) (fun hb => ?_) <;> (try simp at hb) <;> try (exfalso; omega))
        | fail
      · have h5 := Tr.cnts_take l i hb
        refine ⟨l.length - (i + 1), by omega, i + 1, es ++ fs, ks ++ [_], v', v2, ⟨H.objs ++ [.cells [.int .i64 k, .int .i64 n, .str a, .str b, v2]], H2.hi⟩, rfl, by omega, by simp [hel, hfl, h5], by simp [hkl], rfl, ⟨by simp, g2.hi⟩, by rw [prows_append]; exact c1.same rfl, by rw [ints_append]; exact c2.same rfl, c2.okc, q1.symm, rfl, rfl, ?_⟩
        exact only_cons (by simp) (only_cons (by simp) (only_cons (by simp (disch := omega)) (only_cons (by simp [Tr.av]) (only_cons (by simp) only_nil))))
      · rw [List.take_of_length_le (by omega)] at hel
        refine ⟨g2, _, c2.le2 (es' := prows (es ++ [⟨k, n, a, b, ks⟩])) ?_, es ++ [⟨k, n, a, b, ks⟩], rfl, by simp [hel, Tr.cnt]; omega⟩
        rw [clnLL_append, prows_append, prows_cln]
        refine LeLL.append (LeLL.refl _) (.cons ?_ .nil)
        have := a2.le'
        simp at this
        simp only [clnL, PRow.av]
        simp only [cln]
        exact .cons (.refl _) (.cons (.refl _) (.cons (.refl _) (.cons (.refl _) (.cons this .nil))))
def packE (t : Tr) : Int := if t.hole then 1 else if 8192 < t.cnt then 3 else 0
theorem sf74 {t : Tr} {H : Hp} (hc : t.cnt ≤ 67108864) (hs : t.slim) :
    SF Tryz.prog W0 74 [t.av] H fun r H' => H' = H ∧ ∃ c, r = .tuple [.agg [c], .int .i64 (packE t)] ∧ okCell c = true := by
  refine SF.pureLe (sf_startC 2 139 [3] 14 tab_ok Tryz.func74 rfl rfl rfl (by decide) (by simp) ?_)
  repeat' first
    | refine aSq ?_ | refine aRt ?_ | refine aSk ?_ | refine tN ?_ | refine tR ?_
    | (refine rg 1 ?_; refine tk 1 ?_; refine fc en114 ?_; refine SF.then (sf114 _ _ _ (Nat.le_refl _) hs) ?_; refine dn ?_)
    | (refine rg 3 ?_; refine tk 1 ?_; refine fc en33 ?_; refine SF.then (sf33 _ _ _ (Nat.le_refl _) hc hs) ?_; refine tk 1 ?_; refine dn ?_)
    | (refine rg 5 ?_; refine tk 1 ?_; refine fc en115 ?_; refine (sf115 _ _ _ _ (Nat.le_refl _) hc hs (by assumption)).mono ?_; rintro r H1 ⟨rfl, rs, rfl, hrs⟩; refine tk 3 ?_; refine dn ?_)
    | refine ru ?_
    | (refine awp_if rfl (fun hb => ?_) (fun hb => ?_) <;> (try simp at hb) <;> try (exfalso; omega))
    | fail
  · exact ⟨_, by simp; rfl, (Gr.refl H).obj _, .tuple [.agg [.slnil], .int .i64 1], by simp, .slnil, by simp [packE, hb], rfl⟩
  · rename_i hb2
    have : 8192 < t.cnt := by omega
    exact ⟨_, by simp; rfl, (Gr.refl H).obj _, .tuple [.agg [.slnil], .int .i64 3], by simp, .slnil, by simp [packE, hb2, this], rfl⟩
  · rename_i hb2
    have : ¬ 8192 < t.cnt := by omega
    exact ⟨_, by simp; rfl, (Gr.refl H).obj _, .tuple [.agg [.sl 5 (prows rs) .shut], .int .i64 0], by simp, _, by simp [packE, hb2, this]; rfl, rfl⟩
end Go.Av
namespace Go.Av
open Go.Proofs
variable {W0 : World}
set_option maxRecDepth 10000
set_option maxHeartbeats 4000000
def bareT (n : Int) (a b : Str) (x y z : Bool) : Bool := (x || decide (a = [])) && (y || decide (b = [])) && (z || n == 0)
theorem sf102 {H : Hp} {k n : Int} {a b : Str} {l : List Tr} {x y z : Bool} :
    SF Tryz.prog W0 102 [(Tr.node k n a b l).av, .bool x, .bool y, .bool z] H fun r H' => H' = H ∧ r = .bool (bareT n a b x y z) := by
  refine SF.pureLe (sf_start [8] 37 Tryz.func102 rfl rfl rfl (by decide) (by simp) ?_)
  simp only [Tr.av]
  repeat' first
    | refine aSq ?_ | refine aRt ?_
    | (refine rg 1 ?_; refine tk 1 ?_; (first | (refine te (fun hb => ?_) (fun hb => ?_) <;> (try simp at hb) <;> try (exfalso; omega)) | (refine tk 1 ?_)); all_goals (refine tk 6 ?_; (first | (refine te (fun hb => ?_) (fun hb => ?_) <;> (try simp at hb) <;> try (exfalso; omega)) | (refine tk 1 ?_)); all_goals (refine tk 1 ?_; (first | (refine te (fun hb => ?_) (fun hb => ?_) <;> (try simp at hb) <;> try (exfalso; omega)) | (refine tk 1 ?_)); all_goals (refine tk 7 ?_; (first | (refine te (fun hb => ?_) (fun hb => ?_) <;> (try simp at hb) <;> try (exfalso; omega)) | (refine tk 1 ?_)); all_goals (refine tk 1 ?_; (first | (refine te (fun hb => ?_) (fun hb => ?_) <;> (try simp at hb) <;> try (exfalso; omega)) | (refine tk 1 ?_)); all_goals (refine tk 8 ?_; refine dn ?_))))))
    | refine ru ?_
    | fail
  all_goals (simp [retQ, bareT, *])
theorem all_take_succ {α : Type} (p : α → Bool) (l : List α) (i : Nat) (h : i < l.length) : (l.take (i + 1)).all p = ((l.take i).all p && p l[i]) := by
  rw [List.take_add_one, List.all_append, List.getElem?_eq_getElem h]; simp
theorem all_of_take {α : Type} (p : α → Bool) (l : List α) (i : Nat) (h : (l.take i).all p = false) : l.all p = false := by
  cases h2 : l.all p with
  | false => rfl
  | true =>
    rw [List.all_eq_true] at h2
    have : (l.take i).all p = true := List.all_eq_true.2 fun x hx => h2 x (List.mem_of_mem_take hx)
    rw [this] at h; cases h
theorem sf103 {k n : Int} {a b : Str} {l : List Tr} {m : Nat} {H : Hp} {f : FuncId} {caps : List AV} {p : Tr → Bool} (hl : l.length ≤ 67108864) (hm : m ≤ l.length) (hen : enters Tryz.prog f)
    (hf : ∀ t ∈ l, SF Tryz.prog W0 f (t.av :: caps) H fun r H' => H' = H ∧ r = .bool (p t)) :
    SF Tryz.prog W0 103 [(Tr.node k n a b l).av, .int .i64 m, .fn f caps] H fun r H' => H' = H ∧ r = .bool ((l.drop m).all p) := by
  refine SF.pureLe (sf_start [6] 25 Tryz.func103 rfl rfl rfl (by decide) (by simp) ?_)
  simp only [Tr.av]
  repeat' first
    | refine aSq ?_ | refine aBl ?_
    | (refine ru ?_ (by simp (disch := omega) [hm]; with_reducible rfl))
    | fail
  refine awp_loop_inv (fun q st => ∃ i : Nat, q = (l.drop m).length - i ∧ i ≤ (l.drop m).length ∧ ((l.drop m).take i).all p = true ∧ Sub st ⟨25, [(16, .int .i64 i), (15, .int .i64 (l.drop m).length), (14, .sl 1 (Tr.avs (l.drop m)) .shut), (2, .fn f caps)], H⟩) (l.drop m).length ⟨0, by simp, by simp, by simp, ⟨rfl, rfl, only_cons (by simp) (only_cons (by simp) (only_cons (by simp) (only_cons (by simp) only_nil)))⟩⟩ ?_
  rintro q st ⟨i, rfl, hi, hh, hs2⟩
  refine awp_sub hs2 ?_
  clear hs2 st
  have hf2 : ∀ t ∈ l.drop m, SF Tryz.prog W0 f (t.av :: caps) H fun r H' => H' = H ∧ r = .bool (p t) := fun t ht => hf t (List.mem_of_mem_drop ht)
  have hl2 : (l.drop m).length ≤ 67108864 := by simp; omega
  generalize l.drop m = d at *
  repeat' first
    | refine aSq ?_ | refine aRt ?_ | refine aSk ?_ | refine aEx ?_ | refine aBl ?_ | refine tN ?_ | refine tR ?_ | refine iR ?_
    | (refine rg 4 ?_; refine tk 2 ?_; refine aops_val rfl rfl rfl rfl rfl (by assumption) (by simp; rfl) ?_; refine SF.then (hf2 d[i] (List.getElem_mem _)) ?_; refine tk 1 ?_; refine dn ?_)
    | refine ru ?_
    | (refine awp_if rfl (fun hb => ?_) (fun hb => ?_) <;> (try simp at hb) <;> try (exfalso; omega))
    | fail
  · have h5 := all_take_succ p d i (by assumption)
    have h6 : d.all p = false := all_of_take p d (i + 1) (by rw [h5, hb]; simp)
    simp [retQ, h6]
  · have h5 := all_take_succ p d i (by assumption)
    exact ⟨d.length - (i + 1), by omega, i + 1, rfl, by omega, by rw [h5, hh, hb]; rfl, rfl, rfl, only_cons (by simp (disch := omega)) (only_cons (by simp) (only_cons (by simp) (only_cons (by simp) only_nil)))⟩
  · rw [List.take_of_length_le (by omega)] at hh
    simp [retQ, hh]
end Go.Av
namespace Go.Av
open Go.Proofs
variable {W0 : World}
set_option maxRecDepth 10000
set_option maxHeartbeats 4000000
structure Form where
  f : FuncId
  caps : List AV
  p : Tr → Bool
def forms (l : List Form) : List (List AV) := l.map fun F => [.fn F.f F.caps]
@[simp] theorem forms_len (l : List Form) : (forms l).length = l.length := by simp [forms]
@[simp] theorem forms_get (l : List Form) (i : Nat) : (forms l)[i]? = (l[i]?).map fun F => [.fn F.f F.caps] := by simp [forms]
@[simp] theorem forms_getE (l : List Form) (i : Nat) (h : i < (forms l).length) : (forms l)[i] = [.fn (l[i]'(by simpa using h)).f (l[i]'(by simpa using h)).caps] := by simp [forms]
theorem sf144 {k n : Int} {a b : Str} {l : List Tr} {fs : List Form} {own : Own} {H : Hp} (hl : l.length ≤ 67108864) (hen : ∀ F ∈ fs, enters Tryz.prog F.f)
    (hf : ∀ F ∈ fs, ∀ t ∈ l, SF Tryz.prog W0 F.f (t.av :: F.caps) H fun r H' => H' = H ∧ r = .bool (F.p t)) :
    SF Tryz.prog W0 144 [(Tr.node k n a b l).av, .sl 1 (forms fs) own] H fun r H' => H' = H ∧ ∃ ok : Bool, r = .bool ok ∧
      (ok = true ↔ l.length = fs.length ∧ ∀ j (h1 : j < l.length) (h2 : j < fs.length), (fs[j]).p l[j] = true) := by
  refine SF.pureLe (sf_start [4] 33 Tryz.func144 rfl rfl rfl (by decide) (by simp) ?_)
  simp only [Tr.av]
  repeat' first
    | refine aSq ?_ | refine aRt ?_ | refine aSk ?_ | refine aBl ?_ | refine tN ?_ | refine tR ?_
    | refine ru ?_
    | (refine awp_if rfl (fun hb => ?_) (fun hb => ?_) <;> (try simp at hb) <;> try (exfalso; omega))
    | fail
  · exact ⟨Gr.refl _, .bool false, by simp, false, rfl, by simp; intro h; exact absurd h (by omega)⟩
  have hlen : l.length = fs.length := by omega
  refine awp_loop_inv (fun q st => ∃ i : Nat, q = fs.length - i ∧ i ≤ fs.length ∧ (∀ j (h1 : j < l.length) (h2 : j < fs.length), j < i → (fs[j]).p l[j] = true) ∧ Sub st ⟨33, [(17, .int .i64 i), (16, .int .i64 fs.length), (15, .sl 1 (forms fs) own), (0, (Tr.node k n a b l).av)], H⟩) fs.length ⟨0, by simp, by simp, by simp, ⟨rfl, rfl, only_cons (by simp) (only_cons (by simp) (only_cons (by simp) (only_cons (by simp [Tr.av]) only_nil)))⟩⟩ ?_
  rintro q st ⟨i, rfl, hi, hh, hs2⟩
  refine awp_sub hs2 ?_
  clear hs2 st
  simp only [Tr.av]
  rcases Nat.lt_or_ge i fs.length with hi2 | hi2
  · have hen2 := hen _ (List.getElem_mem hi2)
    have hi3 : i < l.length := by omega
    repeat' first
      | refine aSq ?_ | refine aRt ?_ | refine aSk ?_ | refine aBl ?_ | refine tN ?_ | refine tR ?_ | refine iR ?_
      | (refine rg 6 ?_; refine tk 8 ?_; refine aops_val rfl rfl rfl rfl rfl (by assumption) (by simp; rfl) ?_; refine SF.then (hf fs[i] (List.getElem_mem _) l[i] (List.getElem_mem _)) ?_; refine tk 1 ?_; refine dn ?_)
      | refine ru ?_
      | (refine awp_if rfl (fun hb => ?_) (fun hb => ?_) <;> (try simp at hb) <;> try (exfalso; omega))
      | fail
    · refine ⟨Gr.refl _, .bool false, by simp, false, rfl, ?_⟩
      simp only [Bool.false_eq_true, false_iff, not_and]
      intro _ h2
      rw [h2 i hi3 hi2] at hb; cases hb
    · refine ⟨fs.length - (i + 1), by omega, i + 1, rfl, by omega, fun j h1 h2 hj => ?_, rfl, rfl, only_cons (by simp (disch := omega)) (only_cons (by simp) (only_cons (by simp) (only_cons (by simp [Tr.av]) only_nil)))⟩
      rcases Nat.lt_or_ge j i with q | q
      · exact hh j h1 h2 q
      · have : j = i := by omega
        subst this; exact hb
  · repeat' first
      | refine aSq ?_ | refine aRt ?_ | refine aEx ?_
      | refine ru ?_
      | (refine awp_if rfl (fun hb => ?_) (fun hb => ?_) <;> (try simp at hb) <;> try (exfalso; omega))
      | fail
    exact ⟨Gr.refl _, .bool true, by simp, true, rfl, by simp; exact ⟨hlen, fun j h1 h2 => hh j h1 h2 (by omega)⟩⟩
end Go.Av
namespace Go.Av
open Go.Proofs
variable {W0 : World}
set_option maxRecDepth 10000
set_option maxHeartbeats 4000000
theorem sf32 {kind : Int} {name : Str} {l : List Tr} {own : Own} {H : Hp} :
    SF Tryz.prog W0 32 [.int .i64 kind, .str name, .sl 1 (Tr.avs l) own] H fun r H' => H' = H ∧ r = (Tr.node kind 0 name [] l).av := by
  refine SF.pureLe (sf_start [6] 12 Tryz.func32 rfl rfl rfl (by decide) (by simp) ?_)
  repeat' first
    | refine aSq ?_ | refine aRt ?_
    | refine ru ?_
    | fail
  exact ⟨Gr.refl _, _, by simp [Tr.av]; exact .ptr (.cons (.refl _) (.cons (.refl _) (.cons (.refl _) (.cons (.refl _) (.cons (.shut _ _ _) .nil))))), rfl⟩
theorem sf227 {n : Int} {t u : Tr} {H : Hp} :
    SF Tryz.prog W0 227 [.int .i64 n, t.av, u.av] H fun r H' => H' = H ∧ r = (Tr.node 31 n [] [] [t, u]).av := by
  refine SF.pureLe (sf_start [6] 13 Tryz.func227 rfl rfl rfl (by decide) (by simp) ?_)
  repeat' first
    | refine aSq ?_ | refine aRt ?_
    | refine ru ?_
    | fail
  exact ⟨Gr.refl _, _, by simp [Tr.av, Tr.avs]; exact .ptr (.cons (.refl _) (.cons (.refl _) (.cons (.refl _) (.cons (.refl _) (.cons (.shut _ _ _) .nil))))), rfl⟩
end Go.Av
namespace Go.Av
open Go.Proofs
variable {W0 : World}
set_option maxRecDepth 10000
set_option maxHeartbeats 4000000
structure Tok where
  kind : Int
  text : Str
  n : Int
  at' : Int
def Tok.av (t : Tok) : List AV := [.int .i64 t.kind, .str t.text, .int .i64 t.n, .int .i64 t.at']
def toks (l : List Tok) : List (List AV) := l.map Tok.av
@[simp] theorem toks_len (l : List Tok) : (toks l).length = l.length := by simp [toks]
@[simp] theorem toks_get (l : List Tok) (i : Nat) : (toks l)[i]? = (l[i]?).map fun t => [.int .i64 t.kind, .str t.text, .int .i64 t.n, .int .i64 t.at'] := by simp [toks]; rfl
@[simp] theorem toks_getE (l : List Tok) (i : Nat) (h : i < (toks l).length) : (toks l)[i] = [.int .i64 (l[i]'(by simpa using h)).kind, .str (l[i]'(by simpa using h)).text, .int .i64 (l[i]'(by simpa using h)).n, .int .i64 (l[i]'(by simpa using h)).at'] := by simp [toks, Tok.av]
@[simp] theorem toks_ok (l : List Tok) : (toks l).all (fun x => x.all okCell) = true := by simp [toks, Tok.av]
@[simp] theorem toks_cln (n m : Nat) (l : List Tok) : clnLL n m (toks l) = toks l := clnLL_map (fun _ _ _ => by simp [Tok.av]) n m l
def keyAt (l : List Tok) (i : Nat) (s : Str) : Bool := match l[i]? with | some t => decide (t.kind = 3) && (t.text == s) | none => false
theorem sf138 {l : List Tok} {own : Own} {i : Nat} {s : Str} {H : Hp} :
    SF Tryz.prog W0 138 [.sl 4 (toks l) own, .int .i64 i, .str s] H fun r H' => H' = H ∧ r = .bool (keyAt l i s) := by
  refine SF.pureLe (sf_start [6] 32 Tryz.func138 rfl rfl rfl (by decide) (by simp) ?_)
  repeat' first
    | refine aSq ?_ | refine aRt ?_
    | (refine rg 1 ?_; refine tk 2 ?_; (first | (refine te (fun hb => ?_) (fun hb => ?_) <;> (try simp at hb) <;> try (exfalso; omega)) | (refine tk 1 ?_)); all_goals (refine tk 5 ?_; (first | (refine te (fun hb => ?_) (fun hb => ?_) <;> (try simp at hb) <;> try (exfalso; omega)) | (refine tk 1 ?_)); all_goals (refine tk 7 ?_; (first | (refine te (fun hb => ?_) (fun hb => ?_) <;> (try simp at hb) <;> try (exfalso; omega)) | (refine tk 1 ?_)); all_goals (refine tk 9 ?_; refine dn ?_))))
    | refine ru ?_
    | fail
  all_goals (simp (disch := omega) [retQ, keyAt, List.getElem?_eq_none, *])
end Go.Av
namespace Go.Av
open Go.Proofs
variable {W0 : World}
set_option maxRecDepth 10000
set_option maxHeartbeats 4000000
theorem keyAt_lt {l : List Tok} {i : Nat} {s : Str} (h : keyAt l i s = true) : i < l.length := by
  rcases Nat.lt_or_ge i l.length with q | q
  · exact q
  · simp [keyAt, List.getElem?_eq_none q] at h
theorem sf223 {l : List Tok} {own o2 : Own} {i : Nat} {ws : List Str} {H : Hp} (hi : i ≤ 67108864) (hw : ws.length ≤ 67108864) (hl : l.length ≤ 67108864) :
    SF Tryz.prog W0 223 [.sl 4 (toks l) own, .int .i64 i, .sl 1 (strs ws) o2] H fun r H' => H' = H ∧ ∃ (i' : Nat) (e : Int), r = .tuple [.int .i64 i', .int .i64 e] ∧
      i ≤ i' ∧ i' ≤ i + ws.length ∧ (e = 0 → i' = i + ws.length) ∧ (i ≤ l.length → i' ≤ l.length) := by
  refine SF.pureLe (sf_start [6, 7] 27 Tryz.func223 rfl rfl rfl (by decide) (by simp) ?_)
  repeat' first
    | refine aSq ?_ | refine aBl ?_
    | refine ru ?_
    | fail
  refine awp_loop_inv (fun q st => ∃ k : Nat, q = ws.length - k ∧ k ≤ ws.length ∧ (i ≤ l.length → i + k ≤ l.length) ∧ Sub st ⟨27, [(8, .int .i64 k), (1, .int .i64 (i + k : Nat)), (0, .sl 4 (toks l) own), (2, .sl 1 (strs ws) o2)], H⟩) ws.length ⟨0, by simp, by simp, by simp, ⟨rfl, rfl, only_cons (by simp) (only_cons (by simp) (only_cons (by simp) (only_cons (by simp) only_nil)))⟩⟩ ?_
  rintro q st ⟨k, rfl, hk, hil, hs2⟩
  refine awp_sub hs2 ?_
  clear hs2 st
  repeat' first
    | refine aSq ?_ | refine aRt ?_ | refine aSk ?_ | refine aEx ?_ | refine aBl ?_ | refine tN ?_ | refine tR ?_ | refine iR ?_
    | (refine rg 4 ?_; refine tk 6 ?_; refine fc en138 ?_; refine SF.then sf138 ?_; refine tk 1 ?_; refine dn ?_)
    | refine ru ?_
    | (refine awp_if rfl (fun hb => ?_) (fun hb => ?_) <;> (try simp at hb) <;> try (exfalso; omega))
    | fail
  · exact ⟨Gr.refl _, .tuple [.int .i64 (i + k : Nat), .int .i64 6], by simp, i + k, 6, rfl, by omega, by omega, by omega, hil⟩
  · have := keyAt_lt hb
    exact ⟨ws.length - (k + 1), by omega, k + 1, rfl, by omega, by omega, rfl, rfl, only_cons (by simp (disch := omega)) (only_cons (by simp (disch := omega) [Int.add_assoc]) (only_cons (by simp) (only_cons (by simp) only_nil)))⟩
  · exact ⟨Gr.refl _, .tuple [.int .i64 (i + k : Nat), .int .i64 0], by simp, i + k, 0, rfl, by omega, by omega, by omega, hil⟩
end Go.Av
namespace Go.Av
open Go.Proofs
variable {W0 : World}
set_option maxRecDepth 10000
set_option maxHeartbeats 4000000
def IsRow (e : List AV) : Prop := ∃ k n a b vk, e = [.int .i64 k, .int .i64 n, .str a, .str b, vk] ∧ (vk = .slnil ∨ ∃ ks own, vk = .sl 1 (ints ks) own)
theorem IsRow.cln {e : List AV} (n m : Nat) (h : IsRow e) : IsRow (clnL n m e) := by
  obtain ⟨k, n', a, b, vk, rfl, h⟩ := h
  refine ⟨k, n', a, b, Av.cln n m vk, by simp, ?_⟩
  rcases h with rfl | ⟨ks, own, rfl⟩
  · exact .inl rfl
  · exact .inr ⟨ks, clnOwn m own, by simp⟩
theorem IsRow.ok {e : List AV} (h : IsRow e) : e.all okCell = true := by
  obtain ⟨k, n', a, b, vk, rfl, h⟩ := h
  rcases h with rfl | ⟨ks, own, rfl⟩ <;> simp
def Rows (es : List (List AV)) : Prop := ∀ e ∈ es, IsRow e
theorem Rows.ok {es : List (List AV)} (h : Rows es) : es.all (fun x => x.all okCell) = true := List.all_eq_true.2 fun e he => (h e he).ok
theorem Rows.cln (n m : Nat) : ∀ {es : List (List AV)}, Rows es → Rows (clnLL n m es)
  | [], _ => by intro e he; simp at he
  | e :: es, h => by
    intro x hx
    simp only [clnLL, List.mem_cons] at hx
    rcases hx with rfl | hx
    · exact (h e (by simp)).cln n m
    · exact Rows.cln n m (fun y hy => h y (by simp [hy])) x hx
theorem Rows.append {a b : List (List AV)} (h : Rows a) (k : Rows b) : Rows (a ++ b) := fun e he => (List.mem_append.1 he).elim (h e) (k e)
theorem App.appendK {T : Tab} {H0 H : Hp} {sz : Nat} {es fs : List (List AV)} {v x : AV} {t e : TypeId} {i : TI} (h : App H0 H sz es v) (g : Gr H0 H) (ht : T t = some ⟨1, .slice e, [.slnil]⟩) (he : T e = some i) (hi : i.size = sz) (hsz : 0 < sz)
    (hx : restA sz x = some fs) (hok : fs.all (·.all okCell) = true) (hl : es.length + fs.length ≤ 67108864) :
    ∃ v' H', appendA T H t t v x = some (v', H') ∧ App H0 H' sz (es ++ fs) v' ∧ Gr H0 H' ∧ H'.objs = H.objs ∧ ∀ sz2 es2 u, App H0 H sz2 es2 u → Parted v u → App H0 H' sz2 es2 u ∧ Parted v' u := by
  obtain ⟨v', H', e1, a1, g1, o1⟩ := h.append g ht he hi hsz hx hok hl
  refine ⟨v', H', e1, a1, g1, o1, fun sz2 es2 u h2 hp => ?_⟩
  obtain ⟨v2, H2, e2, _, _, _, b, p⟩ := h.append2 g ht he hi hsz hx hok hl h2 hp
  rw [e1] at e2
  cases e2
  exact ⟨b, p⟩
theorem set_same {α : Type} : ∀ {l : List α} {i : Nat} {x : α}, l[i]? = some x → l.set i x = l
  | [], _, _, h => by simp at h
  | y :: l, 0, x, h => by simp at h; simp [h]
  | y :: l, i + 1, x, h => by simp at h; simp [set_same h]
theorem set_twice {α : Type} : ∀ (l : List α) (i : Nat) (x y : α), (l.set i x).set i y = l.set i y
  | [], _, _, _ => rfl
  | _ :: _, 0, _, _ => rfl
  | _ :: l, i + 1, x, y => by simp
theorem holes_get : ∀ (l : List Tr) (i : Nat) (h : i < l.length), Tr.holes l = false → (l[i]).hole = false := by
  intro l
  induction l with
  | nil => intro i h; simp at h
  | cons t l ih => intro i h hl; simp only [Tr.holes, Bool.or_eq_false_iff] at hl; cases i with
    | zero => exact hl.1
    | succ i => simpa using ih i (by simpa using h) hl.2
theorem App.cln {H0 H : Hp} {sz : Nat} {es : List (List AV)} {v : AV} (h : App H0 H sz es v) (n m : Nat) (os : List AObj) (hm : H.hi.length ≤ m) : App H0 ⟨os, H.hi.take m⟩ sz (clnLL n m es) (Av.cln n m v) := by
  rcases h.is with ⟨rfl, rfl⟩ | rfl | ⟨k, h1, rfl, h3⟩
  · exact ⟨.inl ⟨rfl, rfl⟩⟩
  · exact ⟨.inr (.inl (by simp))⟩
  · have : k < H.hi.length := by
      rcases Nat.lt_or_ge k H.hi.length with q | q
      · exact q
      · simp [List.getElem?_eq_none q] at h3
    have hkm : k < m := by omega
    exact ⟨.inr (.inr ⟨k, h1, by simp [hkm], by simp [clnLL_length, List.getElem?_take, hkm, h3]⟩)⟩
theorem Parted.cln {v u : AV} (n m : Nat) (h : Parted v u) : Parted (Av.cln n m v) u := by
  intro s1 e1 k1 s2 e2 k2 q1 q2
  cases v <;> simp at q1 <;> try (split at q1 <;> cases q1; done)
  rename_i sz es own
  cases own with
  | tok t =>
    simp only [clnOwn] at q1
    split at q1
    · have := q1.2.2; cases this; exact h _ _ _ _ _ _ rfl q2
    · cases q1.2.2
  | capped => cases q1.2.2
  | shut => cases q1.2.2
theorem sf143 (H0 : Hp) (ra rt : Nat) (hra : H0.objs.length ≤ ra) (hrt : H0.objs.length ≤ rt) (hne : ra ≠ rt) : ∀ (N : Nat) (t : Tr) (H : Hp) (es : List (List AV)) (v : AV), t.cnt ≤ N → es.length + t.cnt ≤ 67108864 → t.slim → t.hole = false →
    Gr H0 H → H.objs[ra]? = some (.cells [.fn 143 [.ref ra 0, .ref rt 0]]) → H.objs[rt]? = some (.cells [v]) → App H0 H 5 es v → Rows es →
    SF Tryz.prog W0 143 [t.av, .ref ra 0, .ref rt 0] H fun r H' => ∃ es' v', (∃ x, r = .int .i64 x) ∧ H'.objs = H.objs.set rt (.cells [v']) ∧ Gr H0 H' ∧ App H0 H' 5 es' v' ∧ es'.length = es.length + t.cnt ∧ Rows es' ∧
      (∀ sz us u, App H0 H sz us u → Parted v u → App H0 H' sz us u ∧ Parted v' u) := by
  intro N
  induction N with
  | zero =>
    intro t H es v hN hc hs hh
    cases t with
    | none => simp [Tr.hole] at hh
    | node k n a b l => simp [Tr.cnt] at hN
  | succ N ih =>
    intro t H es0 v0 hN hc hs hh hg0 ha ht hap hrow
    refine SF.cut (sf_start [4] 53 Tryz.func143 rfl rfl rfl (by decide) (by simp) ?_)
    cases t with
    | none => simp [Tr.hole] at hh
    | node k n a b l =>
      simp only [Tr.av]
      simp only [Tr.cnt] at hN hc
      simp only [Tr.slim] at hs
      simp only [Tr.hole] at hh
      have hs1 := hs.1
      have hlt : rt < H.objs.length := by
        rcases Nat.lt_or_ge rt H.objs.length with q | q
        · exact q
        · simp [List.getElem?_eq_none q] at ht
      have hlta : ra < H.objs.length := by
        rcases Nat.lt_or_ge ra H.objs.length with q | q
        · exact q
        · simp [List.getElem?_eq_none q] at ha
      repeat' first
        | refine aSq ?_ | refine aBl ?_
        | (refine dr 1 [(0, true), (1, true), (2, true), (3, true), (4, true), (5, true), (6, true), (7, true), (8, true), (9, true), (10, true), (11, true), (12, true), (13, true), (14, true), (15, true), (16, true), (17, false), (18, false)] [17, 18] ?_; refine dh 17 ?_; refine dx ?_)
        | refine ru ?_
        | fail
      refine awp_loop_inv (fun m st => ∃ (i : Nat) (es : List (List AV)) (ks : List Int) (v vk : AV) (Hc : Hp), m = l.length - i ∧ i ≤ l.length ∧ es.length = es0.length + Tr.cnts (l.take i) ∧ ks.length = i ∧
        Hc.objs = H.objs.set rt (.cells [v]) ++ [.cells [.int .i64 k, .int .i64 n, .str a, .str b, vk]] ∧ Gr H0 Hc ∧ App H0 Hc 5 es v ∧ Rows es ∧ App H0 Hc 1 (ints ks) vk ∧ okCell vk = true ∧ Parted v vk ∧
        (∀ sz us u, App H0 H sz us u → Parted v0 u → App H0 Hc sz us u ∧ Parted v u ∧ Parted vk u) ∧
        Sub st ⟨53, [(5, .ref H.objs.length 0), (30, .int .i64 i), (29, .int .i64 l.length), (28, .sl 1 (Tr.avs l) .shut), (1, .ref ra 0), (2, .ref rt 0)], Hc⟩) l.length
        ⟨0, es0, [], v0, .slnil, _, by simp, by simp, by simp [Tr.cnts], by simp, by simp [set_same ht], hg0.obj _, hap.same rfl, hrow, App.slnil _ _ _, rfl, (Parted.slnil _).symm, fun sz us u h1 h2 => ⟨h1.same rfl, h2, Parted.slnil _⟩, rfl, rfl, only_cons (by simp) (only_cons (by simp) (only_cons (by simp) (only_cons (by simp) (only_cons (by simp) (only_cons (by simp) only_nil)))))⟩ ?_
      rintro m st ⟨i, es, ks, v, vk, Hc, rfl, hi, hel, hkl, hob, hg, a1, hrw, a2, hko, hpt, hkeep, hs2⟩
      refine awp_sub hs2 ?_
      clear hs2 st
      have h3 : ∀ h : i < l.length, es.length + (l[i]).cnt + 1 ≤ 67108864 := fun h => by
        have := Tr.cnts_take l i h; have := Tr.cnts_take_le l (i + 1); omega
      have h1 := Tr.cnts_take_le l i
      have hca : Hc.objs[ra]? = some (.cells [.fn 143 [.ref ra 0, .ref rt 0]]) := by
        rw [hob, List.getElem?_append_left (by simpa using hlta), List.getElem?_set_ne (Ne.symm hne)]; exact ha
      have hct : Hc.objs[rt]? = some (.cells [v]) := by
        rw [hob, List.getElem?_append_left (by simpa using hlt), List.getElem?_set_self hlt]
      have hcc : Hc.objs[H.objs.length]? = some (.cells [.int .i64 k, .int .i64 n, .str a, .str b, vk]) := by
        rw [hob, List.getElem?_append_right (by simp)]; simp
      repeat' first
        | refine aSq ?_ | refine aRt ?_ | refine aSk ?_ | refine aEx ?_ | refine aBl ?_ | refine tN ?_
        | (refine awp_drawJ (id := 5) (fun X => X.objs[ra]? = some (.cells [.fn 143 [.ref ra 0, .ref rt 0]]) ∧ X.objs[H.objs.length]? = some (.cells [.int .i64 k, .int .i64 n, .str a, .str b, vk])) [(0, true), (1, true), (2, true), (3, true), (4, false), (5, false), (6, false), (7, true), (8, false)] [8] tab_ok mixedT (by decide +kernel) ⟨hca, hcc⟩ ?_; refine adj_fix (mu := mu0) rfl (by decide +kernel) rfl ⟨hca, hcc⟩ (fun X hX => by simp; rfl) ?_; refine adj_fix (mu := mu0) rfl (by decide +kernel) rfl ⟨hca, hcc⟩ (fun X hX => by simp [hX.2]; rfl) ?_; refine adj_fix (mu := mu0) rfl (by decide +kernel) rfl ⟨hca, hcc⟩ (fun X hX => by simp [hX.1]; rfl) ?_; refine adj_fix (mu := mu0) rfl (by decide +kernel) rfl ⟨hca, hcc⟩ (fun X hX => by simp; rfl) ?_; refine adj_val (f := 143) (caps := [.ref ra 0, .ref rt 0]) rfl rfl rfl rfl rfl (by simp) en143 (by simp; rfl) ?_; have h4 := h3 (by assumption); refine (ih _ Hc es v (by have := Tr.cnts_le l i (by assumption); omega) (by omega) (Tr.slims_get _ _ _ hs.2) (holes_get l i (by assumption) hh) hg hca hct a1 hrw).mono ?_; rintro r H1 ⟨es', v', ⟨x, rfl⟩, ho1, hg1, a3, hl3, hr3, hk3⟩; (have hca1 : H1.objs[ra]? = some (.cells [.fn 143 [.ref ra 0, .ref rt 0]]) := by rw [ho1, List.getElem?_set_ne (Ne.symm hne)]; exact hca); (have hcc1 : H1.objs[H.objs.length]? = some (.cells [.int .i64 k, .int .i64 n, .str a, .str b, vk]) := by rw [ho1, List.getElem?_set_ne (by omega)]; exact hcc); obtain ⟨a4, p4⟩ := hk3 _ _ _ a2 hpt; refine ⟨.inr ⟨hca1, hcc1⟩, ?_⟩; refine adj_step (mu := mu0) (H' := H1) tab_ok rfl (by simp; rfl) (.inr ⟨hca1, hcc1⟩) ?_; obtain ⟨vk', H2, e2, a5, g5, o5, k5⟩ := a4.appendK (T := tab) hg1 (x := .sl 1 [[.int .i64 x]] .capped) (fs := [[.int .i64 x]]) (t := 33) (e := 3) tab33 tab3 rfl (by decide) (by simp) (by simp) (by simp; omega); (have hca2 : H2.objs[ra]? = some (.cells [.fn 143 [.ref ra 0, .ref rt 0]]) := by rw [o5]; exact hca1); (have hcc2 : H2.objs[H.objs.length]? = some (.cells [.int .i64 k, .int .i64 n, .str a, .str b, vk]) := by rw [o5]; exact hcc1); refine adj_step (mu := mu0) (H' := H2) tab_ok rfl (by simp [e2]; rfl) (.inr ⟨hca2, hcc2⟩) ?_; refine adj_fix (mu := mu0) rfl (by decide +kernel) rfl ⟨hca2, hcc2⟩ (fun X hX => by simp; rfl) ?_; refine adj_step (mu := mu0) (y := .tuple []) (H' := ⟨H1.objs.set H.objs.length (.cells [.int .i64 k, .int .i64 n, .str a, .str b, vk']), H2.hi⟩) tab_ok rfl (by simp [o5, hcc1, a5.cells, a5.okc]) (.inl rfl) ?_; refine adj_nil ?_)
        | (refine rg 7 ?_; refine aops_take 4 (mu := mu0) tab_ok (by simp [hct, hcc]; rfl) ?_; obtain ⟨v2, H2, e2, a5, g5, o5, k5⟩ := a1.appendK (T := tab) hg (x := .sl 5 [[.int .i64 k, .int .i64 n, .str a, .str b, vk]] .capped) (fs := [[.int .i64 k, .int .i64 n, .str a, .str b, vk]]) (t := 137) (e := 192) tab137 tab192 rfl (by decide) (by simp) (by simp [hko]) (by simp; omega); refine aops_take 3 (mu := mu0) tab_ok (by simp [e2, o5, hct, a5.cells, a5.okc]; rfl) ?_; refine dn ?_)
        | (have hct2 : (Hc.objs.set rt (.cells [v2]))[rt]? = some (.cells [v2]) := List.getElem?_set_self (by rw [hob]; simp; omega); refine awp_run (mu := mu0) tab_ok (by simp [hct2, a5.len tab137]; rfl) ?_)
        | refine ru ?_
        | (refine awp_if rfl (fun hb => ?_) (fun hb => ?_) <;> (try simp at hb) <;> try (exfalso; omega))
        | fail
      · have h5 := Tr.cnts_take l i (by assumption)
        obtain ⟨b3, p3⟩ := k5 _ _ _ a3 p4.symm
        have hgl : H0.objs.length ≤ H.objs.length := by omega
        refine ⟨l.length - (i + 1), by omega, i + 1, es', ks ++ [x], v', vk', ⟨H1.objs.set H.objs.length (.cells [.int .i64 k, .int .i64 n, .str a, .str b, vk']), H2.hi⟩, rfl, by omega, by omega, by simp [hkl], ?_, ?_, b3.same rfl, hr3, by rw [ints_append]; exact a5.same rfl, a5.okc, p3.symm, ?_, rfl, rfl, ?_⟩
        · rw [ho1, hob, List.set_append_left _ _ (by simpa using hlt), set_twice]
          have hgt : H.objs.length = (H.objs.set rt (.cells [v'])).length := by simp
          rw [hgt, set_concat]
        · have := g5.set hgl (.cells [.int .i64 k, .int .i64 n, .str a, .str b, vk'])
          rwa [o5] at this
        · intro sz us u h6 h7
          obtain ⟨q1, q2, q3⟩ := hkeep sz us u h6 h7
          obtain ⟨q4, q5⟩ := hk3 sz us u q1 q2
          obtain ⟨q6, q7⟩ := k5 sz us u q4 q3
          exact ⟨q6.same rfl, q5, q7⟩
        · exact only_cons (by simp) (only_cons (by simp (disch := omega)) (only_cons (by simp) (only_cons (by simp) (only_cons (by simp) (only_cons (by simp) only_nil)))))
      · refine ⟨max H.hi.length H2.hi.length, Nat.le_max_left _ _, fun hold => ?_⟩
        have hm : H2.hi.length ≤ max H.hi.length H2.hi.length := Nat.le_max_right _ _
        generalize max H.hi.length H2.hi.length = m at *
        have ht2 : H2.hi.take m = H2.hi := List.take_of_length_le hm
        have hrows : Rows (es ++ [[.int .i64 k, .int .i64 n, .str a, .str b, vk]]) := hrw.append fun e he => by
          simp only [List.mem_singleton] at he
          subst he
          refine ⟨k, n, a, b, vk, rfl, ?_⟩
          rcases a2.is with ⟨rfl, _⟩ | rfl | ⟨k, _, rfl, _⟩
          · exact .inl rfl
          · exact .inr ⟨ks, _, rfl⟩
          · exact .inr ⟨ks, _, rfl⟩
        refine ⟨_, Av.cln H.objs.length m v2, ⟨IntKind.i64.wrap ((es ++ [[AV.int IntKind.i64 k, AV.int IntKind.i64 n, AV.str a, AV.str b, vk]]).length - 1), by simp⟩, ?_, ?_, a5.cln H.objs.length m _ hm, ?_, hrows.cln _ _, ?_⟩
        · have e1 : (Hc.objs.set rt (.cells [v2])).take H.objs.length = H.objs.set rt (.cells [v2]) := by
            rw [hob, List.set_append_left _ _ (by simpa using hlt), set_twice]
            exact List.take_left' (by simp)
          simp only [e1, List.map_set, hold]
          simp [clnO, clnL]
        · refine ⟨?_, ?_⟩
          · have e1 : (Hc.objs.set rt (.cells [v2])).take H.objs.length = H.objs.set rt (.cells [v2]) := by
              rw [hob, List.set_append_left _ _ (by simpa using hlt), set_twice]
              exact List.take_left' (by simp)
            simp only [e1, List.map_set, hold]
            rw [List.take_set_of_le hrt]; exact hg0.objs
          · simp only [ht2]; exact g5.hi
        · have hil : i = l.length := by omega
          rw [clnLL_length]; simp [hel, Tr.cnt, hil]; omega
        · intro sz us u h6 h7
          obtain ⟨q1, q2, q3⟩ := hkeep sz us u h6 h7
          obtain ⟨q6, q7⟩ := k5 sz us u q1 q2
          exact ⟨q6.same (by simp only [ht2]), q7.cln _ _⟩
end Go.Av
namespace Go.Av
open Go.Proofs
variable {W0 : World}
set_option maxRecDepth 10000
set_option maxHeartbeats 4000000
@[simp] theorem get_app_add {α : Type} (l m : List α) (k : Nat) : (l ++ m)[l.length + k]? = m[k]? := by
  rw [List.getElem?_append_right (by omega)]; congr 1; omega
@[simp] theorem get_app_zero {α : Type} (l m : List α) : (l ++ m)[l.length]? = m[0]? := by
  rw [List.getElem?_append_right (by omega)]; congr 1; omega
@[simp] theorem set_app_add {α : Type} (l m : List α) (k : Nat) (x : α) : (l ++ m).set (l.length + k) x = l ++ m.set k x := by
  rw [List.set_append_right _ _ (by omega)]; congr 2; omega
@[simp] theorem set_app_zero {α : Type} (l m : List α) (x : α) : (l ++ m).set l.length x = l ++ m.set 0 x := by
  rw [List.set_append_right _ _ (by omega)]; congr 2; omega
theorem sf100 {t : Tr} {H : Hp} (hc : t.cnt ≤ 67108864) (hs : t.slim) :
    SF Tryz.prog W0 100 [t.av] H fun r H' => H' = H ∧ ∃ c, r = .tuple [.agg [c], .int .i64 (packE t)] := by
  refine SF.pureLe (sf_startC 2 139 [3] 21 tab_ok Tryz.func100 rfl rfl rfl (by decide) (by simp) ?_)
  repeat' first
    | refine aSq ?_ | refine aRt ?_ | refine aSk ?_ | refine aBl ?_ | refine tN ?_ | refine tR ?_ | refine iR ?_
    | (refine rg 1 ?_; refine tk 1 ?_; refine fc en141 ?_; refine SF.then (sf141 _ _ _ (Nat.le_refl _) hs) ?_; refine tk 2 ?_; refine dn ?_)
    | (refine rg 3 ?_; refine tk 1 ?_; refine fc en142 ?_; refine SF.then (sf142 _ _ _ (Nat.le_refl _) hc hs) ?_; refine tk 2 ?_; refine dn ?_)
    | (refine rg 8 ?_; refine aops_take 2 (mu := mu0) tab_ok (by simp; rfl) ?_; refine aops_val rfl rfl rfl rfl rfl en143 (by simp; rfl) ?_; (have hle : t.cnt ≤ 8192 := by omega); refine (sf143 H (H.objs.length + 2) (H.objs.length + 1) (by omega) (by omega) (by omega) _ t _ [] .slnil (Nat.le_refl _) (by simp; omega) hs (by assumption) ⟨by simp, by simp⟩ (by simp) (by simp) (App.slnil _ _ _) (by intro e he; simp at he)).mono ?_; rintro r H1 ⟨es', v', ⟨x, rfl⟩, ho1, hg1, a1, hl1, hr1, hk1⟩; refine dn ?_)
    | (simp at ho1; refine awp_run (mu := mu0) tab_ok (by simp [ho1, a1.cells, a1.okc]; rfl) ?_)
    | refine ru ?_
    | (refine awp_if rfl (fun hb => ?_) (fun hb => ?_) <;> (try simp at hb) <;> try (exfalso; omega))
    | fail
  · exact ⟨_, by simp; rfl, (Gr.refl H).obj _, .tuple [.agg [.slnil], .int .i64 1], by simp, .slnil, by simp [packE, hb]⟩
  · rename_i hb2
    have : 8192 < t.cnt := by omega
    exact ⟨_, by simp; rfl, (Gr.refl H).obj _, .tuple [.agg [.slnil], .int .i64 3], by simp, .slnil, by simp [packE, hb2, this]⟩
  · rename_i hb2
    have : ¬ 8192 < t.cnt := by omega
    exact ⟨_, by simp; rfl, ⟨by simp, hg1.hi⟩, .tuple [.agg [cln H.objs.length H.hi.length v'], .int .i64 0], by simp, _, by simp [packE, hb2, this]; rfl⟩
end Go.Av
namespace Go.Av
open Go.Proofs
variable {W0 : World}
set_option maxRecDepth 10000
set_option maxHeartbeats 4000000
def validR (r : Int) : Bool := decide ((0 ≤ r ∧ r < 55296) ∨ (57343 < r ∧ r ≤ 1114111))
theorem sf163 {r : Int} {H : Hp} : SF Tryz.prog W0 163 [.int .i32 r] H fun x H' => H' = H ∧ x = .bool (validR r) := by
  refine SF.pureLe (sf_start [2] 17 Tryz.func163 rfl rfl rfl (by decide) (by simp) ?_)
  repeat' first
    | refine aSq ?_ | refine aRt ?_ | refine aSk ?_ | refine aBl ?_ | refine tN ?_ | refine tR ?_ | refine iR ?_
    | (refine rg 1 ?_; refine tk 2 ?_; (first | (refine te (fun hb => ?_) (fun hb => ?_) <;> (try simp at hb) <;> try (exfalso; omega)) | (refine tk 1 ?_)); all_goals (refine tk 4 ?_; refine dn ?_))
    | (refine rg 3 ?_; refine tk 2 ?_; (first | (refine te (fun hb => ?_) (fun hb => ?_) <;> (try simp at hb) <;> try (exfalso; omega)) | (refine tk 1 ?_)); all_goals (refine tk 4 ?_; refine dn ?_))
    | refine ru ?_
    | (refine awp_if rfl (fun hb => ?_) (fun hb => ?_) <;> (try simp at hb) <;> try (exfalso; omega))
    | fail
  all_goals (simp only [retQ]; refine ⟨Gr.refl _, _, Le.refl _, ?_⟩; simp [validR]; omega)
theorem sf122 {r : Int} {H : Hp} : SF Tryz.prog W0 122 [.int .i32 r] H fun x H' => H' = H ∧ x = .int .i64 (cls r) := by
  refine SF.pureLe (sf_start [2] 43 Tryz.func122 rfl rfl rfl (by decide) (by simp) ?_)
  repeat' first
    | refine aSq ?_ | refine aRt ?_ | refine aSk ?_ | refine aBl ?_ | refine tN ?_ | refine tR ?_ | refine iR ?_
    | (refine rg 1 ?_; refine tk 2 ?_; (first | (refine te (fun hb => ?_) (fun hb => ?_) <;> (try simp at hb) <;> try (exfalso; omega)) | (refine tk 1 ?_)); all_goals (refine tk 4 ?_; refine dn ?_))
    | (refine rg 2 ?_; refine tk 2 ?_; (first | (refine te (fun hb => ?_) (fun hb => ?_) <;> (try simp at hb) <;> try (exfalso; omega)) | (refine tk 1 ?_)); all_goals (refine tk 4 ?_; refine dn ?_))
    | (refine rg 5 ?_; refine tk 2 ?_; (first | (refine te (fun hb => ?_) (fun hb => ?_) <;> (try simp at hb) <;> try (exfalso; omega)) | (refine tk 1 ?_)); all_goals (refine tk 4 ?_; refine dn ?_))
    | (refine rg 11 ?_; refine tk 2 ?_; (first | (refine te (fun hb => ?_) (fun hb => ?_) <;> (try simp at hb) <;> try (exfalso; omega)) | (refine tk 1 ?_)); all_goals (refine tk 3 ?_; (first | (refine te (fun hb => ?_) (fun hb => ?_) <;> (try simp at hb) <;> try (exfalso; omega)) | (refine tk 1 ?_)); all_goals (refine tk 1 ?_; (first | (refine fg en163 ?_; refine SF.then sf163 ?_) | (refine tk 1 ?_)); refine tk 2 ?_; refine dn ?_)))
    | refine ru ?_
    | (refine awp_if rfl (fun hb => ?_) (fun hb => ?_) <;> (try simp at hb) <;> try (exfalso; omega))
    | fail
  all_goals (simp only [retQ]; refine ⟨Gr.refl _, .int .i64 (cls r), ?_, rfl⟩)
  all_goals (try simp only [validR, decide_eq_true_eq, decide_eq_false_iff_not] at *)
  all_goals (rw [show cls r = _ from by unfold cls; (repeat' split) <;> first | (exfalso; omega) | rfl]; simp)
theorem sf53 {r : Int} {H : Hp} : SF Tryz.prog W0 53 [.int .i32 r] H fun x H' => H' = H ∧ x = .int .i64 (cls r) := by
  refine SF.pureLe (sf_start [2] 55 Tryz.func53 rfl rfl rfl (by decide) (by simp) ?_)
  repeat' first
    | refine aSq ?_ | refine aRt ?_ | refine aSk ?_ | refine tN ?_ | refine tR ?_
    | (refine rg 1 ?_; refine tk 2 ?_; (first | (refine te (fun hb => ?_) (fun hb => ?_) <;> (try simp at hb) <;> try (exfalso; omega)) | (refine tk 1 ?_)); all_goals (refine tk 3 ?_; (first | (refine te (fun hb => ?_) (fun hb => ?_) <;> (try simp at hb) <;> try (exfalso; omega)) | (refine tk 1 ?_)); all_goals (refine tk 2 ?_; (first | (refine te (fun hb => ?_) (fun hb => ?_) <;> (try simp at hb) <;> try (exfalso; omega)) | (refine tk 1 ?_)); all_goals (refine tk 4 ?_; (first | (refine te (fun hb => ?_) (fun hb => ?_) <;> (try simp at hb) <;> try (exfalso; omega)) | (refine tk 1 ?_)); all_goals (refine tk 3 ?_; refine dn ?_)))))
    | (refine rg 3 ?_; refine tk 2 ?_; (first | (refine te (fun hb => ?_) (fun hb => ?_) <;> (try simp at hb) <;> try (exfalso; omega)) | (refine tk 1 ?_)); all_goals (refine tk 3 ?_; refine dn ?_))
    | (refine rg 5 ?_; refine tk 2 ?_; (first | (refine te (fun hb => ?_) (fun hb => ?_) <;> (try simp at hb) <;> try (exfalso; omega)) | (refine tk 1 ?_)); all_goals (refine tk 3 ?_; (first | (refine te (fun hb => ?_) (fun hb => ?_) <;> (try simp at hb) <;> try (exfalso; omega)) | (refine tk 1 ?_)); all_goals (refine tk 3 ?_; refine dn ?_)))
    | (refine rg 7 ?_; refine tk 2 ?_; (first | (refine te (fun hb => ?_) (fun hb => ?_) <;> (try simp at hb) <;> try (exfalso; omega)) | (refine tk 1 ?_)); all_goals (refine tk 3 ?_; (first | (refine te (fun hb => ?_) (fun hb => ?_) <;> (try simp at hb) <;> try (exfalso; omega)) | (refine tk 1 ?_)); all_goals (refine tk 3 ?_; (first | (refine te (fun hb => ?_) (fun hb => ?_) <;> (try simp at hb) <;> try (exfalso; omega)) | (refine tk 1 ?_)); all_goals (refine tk 2 ?_; (first | (refine te (fun hb => ?_) (fun hb => ?_) <;> (try simp at hb) <;> try (exfalso; omega)) | (refine tk 1 ?_)); all_goals (refine tk 4 ?_; refine dn ?_)))))
    | refine ru ?_
    | (refine awp_if rfl (fun hb => ?_) (fun hb => ?_) <;> (try simp at hb) <;> try (exfalso; omega))
    | fail
  all_goals (simp only [retQ]; refine ⟨Gr.refl _, .int .i64 (cls r), ?_, rfl⟩)
  all_goals (rw [show cls r = _ from by unfold cls; (repeat' split) <;> first | (exfalso; omega) | rfl]; simp)
end Go.Av
namespace Go.Av
open Go.Proofs
open Go.Lib (decodeL decodeL_N decodeN)
variable {W0 : World}
set_option maxRecDepth 10000
set_option maxHeartbeats 4000000
def nextR (l : Str) : Nat × Nat := if (decodeL l).1 = 65533 ∧ (decodeL l).2 = 1 then (0, 0) else decodeL l
theorem rounds_go {P : Program} {c : Code} {Q : Exit → St → Prop} {n : Nat} {st : St} (h : AWP P W0 c st (thenA (ARounds P W0 c Q n) Q)) : ARounds P W0 c Q (n + 1) st := h
@[simp] theorem wrap32 {n : Int} (h1 : -2147483648 ≤ n) (h2 : n < 2147483648) : IntKind.i32.wrap n = n := by
  unfold IntKind.wrap; simp [IntKind.bits, IntKind.signed]; omega
@[simp] theorem wrap64_u8 (b : UInt8) : IntKind.i64.wrap (b.toNat : Int) = b.toNat := by
  have := UInt8.toNat_lt b
  exact wrap64 (by omega) (by omega)
def NextS (n b0 b1 b2 b3 p q : Nat) : Prop :=
    (b0 < 128 ∧ p = b0 ∧ q = 1) ∨
    (194 ≤ b0 ∧ b0 < 224 ∧ 2 ≤ n ∧ 128 ≤ b1 ∧ b1 ≤ 191 ∧ p + 128 = 64 * (b0 - 192) + b1 ∧ q = 2) ∨
    (224 ≤ b0 ∧ b0 < 240 ∧ 3 ≤ n ∧ 128 ≤ b1 ∧ b1 ≤ 191 ∧ 128 ≤ b2 ∧ b2 ≤ 191 ∧ p + 128 + 8192 = 4096 * (b0 - 224) + 64 * b1 + b2 ∧ 2048 ≤ p ∧ (p < 55296 ∨ 57343 < p) ∧ q = 3) ∨
    (240 ≤ b0 ∧ b0 < 245 ∧ 4 ≤ n ∧ 128 ≤ b1 ∧ b1 ≤ 191 ∧ 128 ≤ b2 ∧ b2 ≤ 191 ∧ 128 ≤ b3 ∧ b3 ≤ 191 ∧ p + 128 + 8192 + 524288 = 262144 * (b0 - 240) + 4096 * b1 + 64 * b2 + b3 ∧ 65536 ≤ p ∧ p ≤ 1114111 ∧ q = 4) ∨
    (p = 0 ∧ q = 0 ∧ 128 ≤ b0 ∧ (194 ≤ b0 ∧ b0 < 224 → n < 2 ∨ b1 < 128 ∨ 191 < b1) ∧
      (224 ≤ b0 ∧ b0 < 240 → n < 3 ∨ b1 < 128 ∨ 191 < b1 ∨ b2 < 128 ∨ 191 < b2 ∨ 4096 * (b0 - 224) + 64 * b1 + b2 < 2048 + 128 + 8192 ∨ (55296 + 128 + 8192 ≤ 4096 * (b0 - 224) + 64 * b1 + b2 ∧ 4096 * (b0 - 224) + 64 * b1 + b2 ≤ 57343 + 128 + 8192)) ∧
      (240 ≤ b0 ∧ b0 < 245 → n < 4 ∨ b1 < 128 ∨ 191 < b1 ∨ b2 < 128 ∨ 191 < b2 ∨ b3 < 128 ∨ 191 < b3 ∨ 262144 * (b0 - 240) + 4096 * b1 + 64 * b2 + b3 < 65536 + 128 + 8192 + 524288 ∨ 1114111 + 128 + 8192 + 524288 < 262144 * (b0 - 240) + 4096 * b1 + 64 * b2 + b3))
theorem next_spec {n b0 b1 b2 b3 p q : Nat} (hn : 1 ≤ n) (h0 : b0 < 256) (h1 : b1 < 256) (h2 : b2 < 256) (h3 : b3 < 256)
    (h : (if (decodeN n b0 b1 b2 b3).1 = 65533 ∧ (decodeN n b0 b1 b2 b3).2 = 1 then (0, 0) else decodeN n b0 b1 b2 b3) = (p, q)) :
    NextS n b0 b1 b2 b3 p q := by
  have e1 : (b0 / 32 = 6) = (192 ≤ b0 ∧ b0 < 224) := propext ⟨fun _ => by omega, fun _ => by omega⟩
  have e2 : (b0 / 16 = 14) = (224 ≤ b0 ∧ b0 < 240) := propext ⟨fun _ => by omega, fun _ => by omega⟩
  have e3 : (b0 / 8 = 30) = (240 ≤ b0 ∧ b0 < 248) := propext ⟨fun _ => by omega, fun _ => by omega⟩
  have f : ∀ b, b < 256 → (b / 64 = 2) = (128 ≤ b ∧ b ≤ 191) := fun b _ => propext ⟨fun _ => by omega, fun _ => by omega⟩
  have m : ∀ b, 128 ≤ b → b ≤ 191 → b % 64 = b - 128 := fun b _ _ => by omega
  obtain ⟨x, y, hd⟩ : ∃ x y, decodeN n b0 b1 b2 b3 = (x, y) := ⟨_, _, rfl⟩
  rw [hd] at h
  simp only at h
  unfold decodeN at hd
  simp only [e1, e2, e3, f b1 h1, f b2 h2, f b3 h3] at hd
  clear e1 e2 e3 f
  split at hd
  · cases hd
    rw [if_neg (by omega)] at h
    cases h
    exact .inl ⟨by assumption, rfl, rfl⟩
  split at hd
  · rename_i c0 c
    obtain ⟨⟨c1, c2⟩, c3, c4, c5⟩ := c
    have m0 : b0 % 32 = b0 - 192 := by omega
    rw [m0, m b1 c4 c5] at hd
    split at hd
    · cases hd
      rw [if_neg (by omega)] at h
      cases h
      exact .inr (.inl ⟨by omega, c2, c3, c4, c5, by omega, rfl⟩)
    · cases hd
      rw [if_pos ⟨rfl, rfl⟩] at h
      cases h
      exact .inr (.inr (.inr (.inr ⟨rfl, rfl, by omega, fun _ => by omega, fun _ => by omega, fun _ => by omega⟩)))
  split at hd
  · rename_i c0 c9 c
    obtain ⟨⟨c1, c2⟩, ⟨c3, c4, c5⟩, c6, c7, c8⟩ := c
    have m0 : b0 % 16 = b0 - 224 := by omega
    rw [m0, m b1 c4 c5, m b2 c7 c8] at hd
    split at hd
    · rename_i c10
      cases hd
      rw [if_neg (by omega)] at h
      cases h
      exact .inr (.inr (.inl ⟨c1, c2, c6, c4, c5, c7, c8, by omega, c10.1, by omega, rfl⟩))
    · cases hd
      rw [if_pos ⟨rfl, rfl⟩] at h
      cases h
      exact .inr (.inr (.inr (.inr ⟨rfl, rfl, by omega, fun _ => by omega, fun _ => by omega, fun _ => by omega⟩)))
  split at hd
  · rename_i c0 c9 c9' c
    obtain ⟨⟨c1, c2⟩, ⟨c3, c4, c5⟩, ⟨c6, c7, c8⟩, c11, c12, c13⟩ := c
    have m0 : b0 % 8 = b0 - 240 := by omega
    rw [m0, m b1 c4 c5, m b2 c7 c8, m b3 c12 c13] at hd
    split at hd
    · rename_i c10
      cases hd
      rw [if_neg (by omega)] at h
      cases h
      exact .inr (.inr (.inr (.inl ⟨c1, by omega, c11, c4, c5, c7, c8, c12, c13, by omega, c10.1, by omega, rfl⟩)))
    · cases hd
      rw [if_pos ⟨rfl, rfl⟩] at h
      cases h
      exact .inr (.inr (.inr (.inr ⟨rfl, rfl, by omega, fun _ => by omega, fun _ => by omega, fun _ => by omega⟩)))
  · cases hd
    rw [if_pos ⟨rfl, rfl⟩] at h
    cases h
    exact .inr (.inr (.inr (.inr ⟨rfl, rfl, by omega, fun _ => by omega, fun _ => by omega, fun _ => by omega⟩)))
theorem sf95 {s : Str} {i : Nat} {H : Hp} (hi : i < s.length) (hs : s.length ≤ 67108864) :
    SF Tryz.prog W0 95 [.str s, .int .i64 i] H fun r H' => H' = H ∧ r = .tuple [.int .i32 (nextR (s.drop i)).1, .int .i64 (nextR (s.drop i)).2] := by
  refine SF.pureLe (sf_start [4, 5] 94 Tryz.func95 rfl rfl rfl (by decide) (by simp) ?_)
  obtain ⟨j1, hj1⟩ : ∃ j : Nat, (i : Int) + 1 = j := ⟨i + 1, rfl⟩
  obtain ⟨j2, hj2⟩ : ∃ j : Nat, (i : Int) + 2 = j := ⟨i + 2, rfl⟩
  obtain ⟨j3, hj3⟩ : ∃ j : Nat, (i : Int) + 3 = j := ⟨i + 3, rfl⟩
  obtain ⟨b0, hb0⟩ : ∃ b, (s.getD i 0).toNat = b := ⟨_, rfl⟩
  obtain ⟨b1, hb1⟩ : ∃ b, (s.getD j1 0).toNat = b := ⟨_, rfl⟩
  obtain ⟨b2, hb2⟩ : ∃ b, (s.getD j2 0).toNat = b := ⟨_, rfl⟩
  obtain ⟨b3, hb3⟩ : ∃ b, (s.getD j3 0).toNat = b := ⟨_, rfl⟩
  obtain ⟨p, q, hpq⟩ : ∃ p q, nextR (s.drop i) = (p, q) := ⟨_, _, rfl⟩
  have hd : ∀ k, (s.drop i).getD k 0 = s.getD (i + k) 0 := fun k => by simp [List.getD_eq_getElem?_getD, List.getElem?_drop]
  have hk := hpq
  rw [nextR, decodeL_N, hd, hd, hd, hd, Nat.add_zero, List.length_drop, show i + 1 = j1 by omega, show i + 2 = j2 by omega, show i + 3 = j3 by omega, hb0, hb1, hb2, hb3] at hk
  have hk := next_spec (by omega) (hb0 ▸ UInt8.toNat_lt _) (hb1 ▸ UInt8.toNat_lt _) (hb2 ▸ UInt8.toNat_lt _) (hb3 ▸ UInt8.toNat_lt _) hk
  have l0 : b0 < 256 := hb0 ▸ UInt8.toNat_lt _
  have l1 : b1 < 256 := hb1 ▸ UInt8.toNat_lt _
  have l2 : b2 < 256 := hb2 ▸ UInt8.toNat_lt _
  have l3 : b3 < 256 := hb3 ▸ UInt8.toNat_lt _
  have g0 : ∀ h : i < s.length, (s[i]'h).toNat = b0 := fun h => by rw [← hb0, List.getD_eq_getElem?_getD, List.getElem?_eq_getElem h]; rfl
  have g1 : ∀ h : j1 < s.length, (s[j1]'h).toNat = b1 := fun h => by rw [← hb1, List.getD_eq_getElem?_getD, List.getElem?_eq_getElem h]; rfl
  have g2 : ∀ h : j2 < s.length, (s[j2]'h).toNat = b2 := fun h => by rw [← hb2, List.getD_eq_getElem?_getD, List.getElem?_eq_getElem h]; rfl
  have g3 : ∀ h : j3 < s.length, (s[j3]'h).toNat = b3 := fun h => by rw [← hb3, List.getD_eq_getElem?_getD, List.getElem?_eq_getElem h]; rfl
  rw [hpq]
  clear hpq hd hb0 hb1 hb2 hb3
  repeat' first
    | refine aSq ?_ | refine aRt ?_ | refine aSk ?_ | refine aEx ?_ | refine aBl ?_ | refine tN ?_ | refine tR ?_ | refine iR ?_
    | (refine rg 7 ?_; refine tk 2 ?_ (by simp (disch := omega) [hj1, hj2, hj3, g0, g1, g2, g3]; with_reducible rfl); (first | (refine te (hs := (by simp (disch := omega) [hj1, hj2, hj3, g0, g1, g2, g3]; with_reducible rfl)) (fun hb => ?_) (fun hb => ?_) <;> (try simp at hb) <;> try (exfalso; omega)) | (refine tk 1 ?_ (by simp (disch := omega) [hj1, hj2, hj3, g0, g1, g2, g3]; with_reducible rfl))); all_goals (refine tk 3 ?_ (by simp (disch := omega) [hj1, hj2, hj3, g0, g1, g2, g3]; with_reducible rfl); refine dn ?_))
    | (refine rg 11 ?_; refine tk 2 ?_ (by simp (disch := omega) [hj1, hj2, hj3, g0, g1, g2, g3]; with_reducible rfl); (first | (refine te (hs := (by simp (disch := omega) [hj1, hj2, hj3, g0, g1, g2, g3]; with_reducible rfl)) (fun hb => ?_) (fun hb => ?_) <;> (try simp at hb) <;> try (exfalso; omega)) | (refine tk 1 ?_ (by simp (disch := omega) [hj1, hj2, hj3, g0, g1, g2, g3]; with_reducible rfl))); all_goals (refine tk 3 ?_ (by simp (disch := omega) [hj1, hj2, hj3, g0, g1, g2, g3]; with_reducible rfl); refine dn ?_))
    | (refine rg 15 ?_; refine tk 2 ?_ (by simp (disch := omega) [hj1, hj2, hj3, g0, g1, g2, g3]; with_reducible rfl); (first | (refine te (hs := (by simp (disch := omega) [hj1, hj2, hj3, g0, g1, g2, g3]; with_reducible rfl)) (fun hb => ?_) (fun hb => ?_) <;> (try simp at hb) <;> try (exfalso; omega)) | (refine tk 1 ?_ (by simp (disch := omega) [hj1, hj2, hj3, g0, g1, g2, g3]; with_reducible rfl))); all_goals (refine tk 3 ?_ (by simp (disch := omega) [hj1, hj2, hj3, g0, g1, g2, g3]; with_reducible rfl); refine dn ?_))
    | (refine rg 19 ?_; refine tk 2 ?_ (by simp (disch := omega) [hj1, hj2, hj3, g0, g1, g2, g3]; with_reducible rfl); (first | (refine te (hs := (by simp (disch := omega) [hj1, hj2, hj3, g0, g1, g2, g3]; with_reducible rfl)) (fun hb => ?_) (fun hb => ?_) <;> (try simp at hb) <;> try (exfalso; omega)) | (refine tk 1 ?_ (by simp (disch := omega) [hj1, hj2, hj3, g0, g1, g2, g3]; with_reducible rfl))); all_goals (refine tk 7 ?_ (by simp (disch := omega) [hj1, hj2, hj3, g0, g1, g2, g3]; with_reducible rfl); refine dn ?_))
    | (refine rg 25 ?_; refine tk 2 ?_ (by simp (disch := omega) [hj1, hj2, hj3, g0, g1, g2, g3]; with_reducible rfl); (first | (refine te (hs := (by simp (disch := omega) [hj1, hj2, hj3, g0, g1, g2, g3]; with_reducible rfl)) (fun hb => ?_) (fun hb => ?_) <;> (try simp at hb) <;> try (exfalso; omega)) | (refine tk 1 ?_ (by simp (disch := omega) [hj1, hj2, hj3, g0, g1, g2, g3]; with_reducible rfl))); all_goals (refine tk 3 ?_ (by simp (disch := omega) [hj1, hj2, hj3, g0, g1, g2, g3]; with_reducible rfl); refine dn ?_))
    | (refine rg 28 ?_; refine tk 3 ?_ (by simp (disch := omega) [hj1, hj2, hj3, g0, g1, g2, g3]; with_reducible rfl); (first | (refine te (hs := (by simp (disch := omega) [hj1, hj2, hj3, g0, g1, g2, g3]; with_reducible rfl)) (fun hb => ?_) (fun hb => ?_) <;> (try simp at hb) <;> try (exfalso; omega)) | (refine tk 1 ?_ (by simp (disch := omega) [hj1, hj2, hj3, g0, g1, g2, g3]; with_reducible rfl))); all_goals (refine tk 3 ?_ (by simp (disch := omega) [hj1, hj2, hj3, g0, g1, g2, g3]; with_reducible rfl); (first | (refine te (hs := (by simp (disch := omega) [hj1, hj2, hj3, g0, g1, g2, g3]; with_reducible rfl)) (fun hb => ?_) (fun hb => ?_) <;> (try simp at hb) <;> try (exfalso; omega)) | (refine tk 1 ?_ (by simp (disch := omega) [hj1, hj2, hj3, g0, g1, g2, g3]; with_reducible rfl))); all_goals (refine tk 2 ?_ (by simp (disch := omega) [hj1, hj2, hj3, g0, g1, g2, g3]; with_reducible rfl); (first | (refine te (hs := (by simp (disch := omega) [hj1, hj2, hj3, g0, g1, g2, g3]; with_reducible rfl)) (fun hb => ?_) (fun hb => ?_) <;> (try simp at hb) <;> try (exfalso; omega)) | (refine tk 1 ?_ (by simp (disch := omega) [hj1, hj2, hj3, g0, g1, g2, g3]; with_reducible rfl))); all_goals (refine tk 4 ?_ (by simp (disch := omega) [hj1, hj2, hj3, g0, g1, g2, g3]; with_reducible rfl); refine dn ?_))))
    | (refine ru ?_ (by simp (disch := omega) [hj1, hj2, hj3, g0, g1, g2, g3]; with_reducible rfl))
    | (refine awp_if rfl (fun hb => ?_) (fun hb => ?_) <;> (try simp at hb) <;> try (exfalso; omega))
    | refine awp_loop 4 ?_
  all_goals (unfold NextS at hk; simp only [retQ]; refine ⟨Gr.refl _, _, Le.refl _, ?_⟩; simp; omega)
end Go.Av
