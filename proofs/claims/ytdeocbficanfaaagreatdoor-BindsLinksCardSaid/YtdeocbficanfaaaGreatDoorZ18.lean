/-
  Go read by value: lemmas (part 18): C2, D16, D17, D18.
-/
import Derived.Test.YtdeocbficanfaaaGreatDoorZ17
set_option linter.unusedVariables false
set_option linter.unusedSimpArgs false
set_option linter.unusedSectionVars false
namespace Go.Av
structure RowM where
  cat : Int
  kind : Int
  nm : Str
  mrk : Str
  lo : Int
  hi : Int
  kids : Str
def RowM.av (r : RowM) : List AV := [.int .i64 r.cat, .int .i64 r.kind, .str r.nm, .str r.mrk, .int .i64 r.lo, .int .i64 r.hi, .str r.kids]
def rowsL : List RowM := [
  ⟨1, 1, [], [], 0, 0, []⟩,
  ⟨1, 2, [], [], 0, 0, []⟩,
  ⟨1, 3, [], [], 0, 0, []⟩,
  ⟨1, 4, [108], [], 0, 0, []⟩,
  ⟨1, 5, [], [], 0, 0, [116, 116]⟩,
  ⟨1, 6, [], [], 0, 0, [116, 116]⟩,
  ⟨1, 7, [110], [], 0, 0, [67]⟩,
  ⟨2, 20, [], [], -1073741824, 1073741824, []⟩,
  ⟨2, 21, [], [], 0, 1, []⟩,
  ⟨2, 22, [], [], 0, 0, []⟩,
  ⟨2, 23, [108], [], 0, 0, []⟩,
  ⟨2, 24, [110], [], 0, 0, [116, 101]⟩,
  ⟨2, 25, [], [], 0, 0, [101, 101]⟩,
  ⟨2, 26, [], [], 0, 0, [101, 101]⟩,
  ⟨2, 27, [], [], 0, 0, [101]⟩,
  ⟨2, 28, [], [], 0, 0, [101]⟩,
  ⟨2, 29, [110], [], 0, 0, [101, 101]⟩,
  ⟨2, 30, [], [], 0, 0, [101, 101, 101]⟩,
  ⟨2, 31, [], [], 1, 5, [101, 101]⟩,
  ⟨2, 32, [], [], 0, 0, [101, 65]⟩,
  ⟨2, 33, [], [], 0, 0, [101, 116, 65]⟩,
  ⟨3, 40, [], [], 0, 0, [42, 105]⟩,
  ⟨3, 41, [108], [], 0, 0, []⟩,
  ⟨3, 42, [110], [], 0, 0, [109]⟩,
  ⟨3, 43, [], [], 0, 1, [109, 115]⟩,
  ⟨4, 50, [], [], 0, 0, [42, 112]⟩,
  ⟨4, 51, [110], [], 0, 0, []⟩,
  ⟨4, 52, [108], [], 0, 0, [115, 116]⟩,
  ⟨5, 60, [110], [], 0, 0, [116]⟩,
  ⟨5, 61, [110], [], 0, 0, [116]⟩,
  ⟨5, 61, [110], [], 0, 0, []⟩,
  ⟨5, 62, [110], [], 0, 0, [67]⟩,
  ⟨5, 63, [110], [], 0, 0, [115]⟩,
  ⟨5, 64, [], [], 0, 0, [115]⟩,
  ⟨5, 65, [108], [108], 0, 0, []⟩,
  ⟨6, 70, [110], [], 0, 0, [101]⟩,
  ⟨6, 70, [110], [], 0, 0, [116, 101]⟩,
  ⟨6, 71, [110], [], 0, 0, [116]⟩,
  ⟨6, 72, [110], [], 0, 0, [67]⟩,
  ⟨6, 73, [110], [], 0, 0, [109]⟩,
  ⟨6, 74, [110], [], 0, 0, [115]⟩,
  ⟨6, 75, [110], [110], 0, 0, [115, 109]⟩,
  ⟨6, 76, [108], [], 0, 0, []⟩,
  ⟨6, 77, [108], [], 0, 0, []⟩,
  ⟨7, 80, [], [], 0, 0, [42, 100]⟩,
  ⟨8, 8, [110], [], 0, 0, [116]⟩,
  ⟨9, 34, [110], [110], 0, 0, [101]⟩]
def wordB (s what : Str) : Bool := if what = [110] then checkB s else if what = [108] then longB s else decide (s = [])
def catB (c : UInt8) : Int := if c = 116 then 1 else if c = 101 then 2 else if c = 109 then 3 else if c = 115 then 4 else if c = 112 then 5 else 6
def Tr.kind : Tr → Int
  | .none => 0
  | .node k _ _ _ _ => k
def Tr.name : Tr → Str
  | .none => []
  | .node _ _ a _ _ => a
def distinctB : List Str → Bool
  | [] => true
  | x :: l => !l.contains x && distinctB l
def innerB (w : Str) (t : Tr) : Bool := !(w.head? == some 105 && (t.kind == 74 || t.kind == 75))
def headC (w : Str) : UInt8 := w.headD 0
mutual
def isB : Tr → Int → Bool
  | .none, _ => false
  | .node k n a b l, c => rowsL.any fun r => r.cat == c && (r.kind == k && (wordB a r.nm && (wordB b r.mrk && (decide (r.lo ≤ n) && (decide (n ≤ r.hi) && kidsB l r.kids)))))
def kidsB : List Tr → Str → Bool
  | [], w => w == [] || w.head? == some 42
  | t :: l, [] => false
  | t :: l, c :: w =>
    if c = 42 then isB t (catB (headC w)) && innerB w t && starB l w
    else if c = 67 then isB t 8 && allB l 8 && distinctB ((t :: l).map Tr.name)
    else if c = 65 then isB t 9 && allB l 9
    else isB t (catB c) && kidsB l w
def starB : List Tr → Str → Bool
  | [], _ => true
  | t :: l, w => isB t (catB (headC w)) && innerB w t && starB l w
def allB : List Tr → Int → Bool
  | [], _ => true
  | t :: l, c => isB t c && allB l c
end
mutual
def Tr.neat : Tr → Prop
  | .none => True
  | .node _ _ a b l => a.length ≤ 67108863 ∧ b.length ≤ 67108863 ∧ l.length ≤ 67108864 ∧ Tr.neats l
def Tr.neats : List Tr → Prop
  | [] => True
  | t :: l => t.neat ∧ Tr.neats l
end
theorem Tr.neats_get : ∀ (l : List Tr) (i : Nat) (h : i < l.length), Tr.neats l → (l[i]).neat
  | t :: l, 0, _, h => h.1
  | t :: l, i + 1, hi, h => by simpa using Tr.neats_get l i (by simpa using hi) h.2
mutual
theorem Tr.slim_of_neat : ∀ t : Tr, t.neat → t.slim
  | .none, _ => trivial
  | .node _ _ _ _ l, h => ⟨h.2.2.1, Tr.slims_of_neats l h.2.2.2⟩
theorem Tr.slims_of_neats : ∀ l : List Tr, Tr.neats l → Tr.slims l
  | [], _ => trivial
  | t :: l, h => ⟨Tr.slim_of_neat t h.1, Tr.slims_of_neats l h.2⟩
end
def okW : Str → Bool
  | [] => true
  | c :: w => (c != 42 || w != []) && (c == 42 || okW w)
theorem rows_ok : ∀ r ∈ rowsL, okW r.kids = true := by decide
theorem allB_all (l : List Tr) (c : Int) : allB l c = l.all fun t => isB t c := by
  induction l with
  | nil => simp [allB]
  | cons t l ih => simp [allB, ih]
theorem starB_all (l : List Tr) (w : Str) : starB l w = l.all fun t => isB t (catB (headC w)) && innerB w t := by
  induction l with
  | nil => simp [starB]
  | cons t l ih => simp [starB, ih]
end Go.Av
namespace Go.Av
open Go.Proofs
variable {W0 : World} {N : Nat}
set_option maxRecDepth 10000
set_option maxHeartbeats 4000000
def rowsAV : List (List AV) := rowsL.map RowM.av
@[simp] theorem rows_cln (n m : Nat) : clnLL n m rowsAV = rowsAV := clnLL_map (fun _ _ _ => by simp [RowM.av]) n m rowsL
theorem awp_runK {P : Program} {T : Tab} {mu : TypeId → Bool} {id : Nat} {l : List Oper} {st : St} {c2 : Code} {Q : Exit → St → Prop} (d : Nat) (v : AV) (hT : TabOK P T)
    (h : (runA T mu l.toArray l st).map (fun s => (s.n, look s.env d, s.H)) = some (st.n, v, st.H)) (k : AWP P W0 c2 ⟨st.n, [(d, v)], st.H⟩ Q) :
    AWP P W0 (.region id l.toArray false) st (thenA (fun s => AWP P W0 c2 s Q) Q) := by
  cases hs : runA T mu l.toArray l st with
  | none => rw [hs] at h; cases h
  | some s =>
    rw [hs] at h
    simp only [Option.map_some, Option.some.injEq, Prod.mk.injEq] at h
    obtain ⟨h1, h2, h3⟩ := h
    exact awp_run hT hs (show thenA _ _ .normal s from awp_sub (t := ⟨st.n, [(d, v)], st.H⟩) ⟨h1.symm, h3.symm, only_cons (by rw [h2]; exact .refl _) only_nil⟩ k)
theorem sf116 {H : Hp} : SF Tryz.prog W0 116 [] H fun r H' => H' = H ∧ r = .sl 7 rowsAV .shut := by
  refine SF.pureLe (sf_start [0] 53 Tryz.func116 rfl rfl rfl (by decide) (by simp) ?_)
  repeat' first
    | refine aSq ?_ | refine aRt ?_
    | (refine awp_runK (id := 2) (mu := mu0) 0 (.sl 7 rowsAV .capped) tab_ok (by kernel_rfl) ?_)
    | refine ru ?_
    | fail
  exact ⟨Gr.refl _, _, by simp, rfl⟩
theorem sf117 {s w : Str} {H : Hp} (hs : s.length ≤ 67108863) : SF Tryz.prog W0 117 [.str s, .str w] H fun r H' => H' = H ∧ r = .bool (wordB s w) := by
  refine SF.pureLe (sf_start [4] 15 Tryz.func117 rfl rfl rfl (by decide) (by simp) ?_)
  repeat' first
    | refine aSq ?_ | refine aRt ?_ | refine aSk ?_ | refine tN ?_ | refine tR ?_
    | (refine rg 2 ?_; refine tk 1 ?_; refine fc en157 ?_; refine SF.then (sf157 (by omega)) ?_; refine tk 1 ?_; refine dn ?_)
    | (refine rg 4 ?_; refine tk 1 ?_; refine fc en158 ?_; refine SF.then (sf158 hs) ?_; refine tk 1 ?_; refine dn ?_)
    | refine ru ?_
    | (refine awp_if rfl (fun hb => ?_) (fun hb => ?_) <;> (try simp at hb) <;> try (exfalso; omega))
    | fail
  all_goals first | (simp [retQ, wordB, *]; done) | (cases s <;> simp [retQ, wordB, *])
theorem catB_nat (c : UInt8) : catB c = if c.toNat = 116 then 1 else if c.toNat = 101 then 2 else if c.toNat = 109 then 3 else if c.toNat = 115 then 4 else if c.toNat = 112 then 5 else 6 := by
  unfold catB
  simp only [← UInt8.toNat_inj]
  rfl
theorem sf159 {c : UInt8} {H : Hp} : SF Tryz.prog W0 159 [.int .u8 c.toNat] H fun r H' => H' = H ∧ r = .int .i64 (catB c) := by
  refine SF.pureLe (sf_start [2] 18 Tryz.func159 rfl rfl rfl (by decide) (by simp) ?_)
  repeat' first
    | refine aSq ?_ | refine aRt ?_ | refine aSk ?_ | refine aEx ?_ | refine aBl ?_ | refine tN ?_ | refine tR ?_ | refine iR ?_
    | refine ru ?_
    | (refine awp_if rfl (fun hb => ?_) (fun hb => ?_) <;> (try simp at hb) <;> try (exfalso; omega))
    | refine awp_loop 7 ?_
  all_goals (refine ⟨Gr.refl _, .int .i64 (catB c), ?_, rfl⟩; rw [catB_nat]; (repeat' split) <;> first | (exfalso; omega) | simp)
def Tr.good (t : Tr) : Prop := t.neat ∧ t.hole = false
def Tr.goods (l : List Tr) : Prop := l.length ≤ 67108864 ∧ ∀ t ∈ l, t.good
theorem holes_mem : ∀ {l : List Tr}, Tr.holes l = false → ∀ t ∈ l, t.hole = false
  | t :: l, h, x, hx => by
    simp only [Tr.holes, Bool.or_eq_false_iff] at h
    rcases List.mem_cons.1 hx with rfl | hx
    · exact h.1
    · exact holes_mem h.2 x hx
theorem neats_mem : ∀ {l : List Tr}, Tr.neats l → ∀ t ∈ l, t.neat
  | t :: l, h, x, hx => by
    rcases List.mem_cons.1 hx with rfl | hx
    · exact h.1
    · exact neats_mem h.2 x hx
theorem Tr.good_kids {k n : Int} {a b : Str} {l : List Tr} (h : (Tr.node k n a b l).good) : Tr.goods l :=
  ⟨h.1.2.2.1, fun t ht => ⟨neats_mem h.1.2.2.2 t ht, holes_mem h.2 t ht⟩⟩
theorem good_node {t : Tr} (h : t.good) : ∃ k n a b l, t = .node k n a b l := by
  cases t with
  | none => exact absurd h.2 (by simp [Tr.hole])
  | node k n a b l => exact ⟨k, n, a, b, l, rfl⟩
theorem kidsB_star (l : List Tr) (w : Str) : kidsB l (42 :: w) = l.all fun t => isB t (catB (headC w)) && innerB w t := by
  cases l with
  | nil => simp [kidsB]
  | cons t l => simp [kidsB, starB_all]
theorem kidsB_C (l : List Tr) (w : Str) : kidsB l (67 :: w) = (decide (l ≠ []) && (l.all (fun t => isB t 8) && distinctB (l.map Tr.name))) := by
  cases l with
  | nil => simp [kidsB]
  | cons t l => simp [kidsB, allB_all, Bool.and_assoc]
theorem kidsB_A (l : List Tr) (w : Str) : kidsB l (65 :: w) = (decide (l ≠ []) && l.all fun t => isB t 9) := by
  cases l with
  | nil => simp [kidsB]
  | cons t l => simp [kidsB, allB_all]
theorem sf118_star (IH : ∀ (t : Tr) (c : Int) (H : Hp), t.cnt ≤ N → t.good → SF Tryz.prog W0 75 [t.av, .int .i64 c] H fun r H' => H' = H ∧ r = .bool (isB t c))
    {l : List Tr} {w : Str} {own : Own} {H : Hp} (hN : Tr.cnts l ≤ N) (hg : Tr.goods l) (hw : okW (42 :: w) = true) : SF Tryz.prog W0 118 [.sl 1 (Tr.avs l) own, .str (42 :: w)] H fun r H' => H' = H ∧ r = .bool (kidsB l (42 :: w)) := by
  refine SF.pureLe (sf_start [4] 141 Tryz.func118 rfl rfl rfl (by decide) (by simp) ?_)
  cases w with
  | nil => simp [okW] at hw
  | cons d w =>
    rw [kidsB_star]
    have hlen := hg.1
    repeat' first
      | refine aSq ?_ | refine aSk ?_ | refine aBl ?_ | refine tN ?_
      | refine ru ?_
      | (refine awp_if rfl (fun hb => ?_) (fun hb => ?_) <;> (try simp at hb) <;> try (exfalso; omega))
      | fail
    refine awp_loop_inv (fun q st => ∃ i : Nat, q = l.length - i ∧ i ≤ l.length ∧ (l.take i).all (fun t => isB t (catB (headC (d :: w))) && innerB (d :: w) t) = true ∧ Sub st ⟨141, [(5, .int .i64 i), (0, .sl 1 (Tr.avs l) own), (1, .str (42 :: d :: w))], H⟩) l.length ⟨0, by simp, by simp, by simp, ⟨rfl, rfl, only_cons (by simp) (only_cons (by simp) (only_cons (by simp) only_nil))⟩⟩ ?_
    rintro q st ⟨i, rfl, hi, hh, hs2⟩
    refine awp_sub hs2 ?_
    clear hs2 st
    rcases Nat.lt_or_ge i l.length with hlt | hge
    · have hgi := hg.2 _ (List.getElem_mem hlt)
      have hci := Tr.cnts_le l i hlt
      have h5 := all_take_succ (fun t => isB t (catB (headC (d :: w))) && innerB (d :: w) t) l i hlt
      obtain ⟨k, n, a, b, ks, e⟩ := good_node hgi
      have hIH := fun c H => IH l[i] c H (by omega) hgi
      rw [e] at hIH h5
      simp only [Tr.av] at hIH
      by_cases hd : d = 105
      · subst hd
        repeat' first
          | refine aSq ?_ | refine aRt ?_ | refine aSk ?_ | refine aBl ?_ | refine tN ?_ | refine tR ?_ | refine iR ?_
          | (refine dr 7 [(0, true), (1, true), (2, true), (3, true), (4, true), (5, true), (6, false), (7, false), (8, true), (9, true), (10, true), (11, true), (12, true), (13, true), (14, true), (15, true), (16, true), (17, true), (18, true), (19, true), (20, true), (21, true), (22, true), (23, true), (24, true), (25, true), (26, true), (27, true), (28, true), (29, true), (30, true), (31, true), (32, true), (33, true)] [] ?_; refine da 6 (fun _ => ?_) (h := (by simp (disch := omega) [e, Tr.av]; with_reducible rfl)); refine df en159 ?_; refine SF.then (sf159 (c := 105)) ?_; refine ⟨.inr rfl, ?_⟩; refine df en75 ?_; refine SF.then (hIH _ _) ?_; refine ⟨.inr rfl, ?_⟩; refine da 1 (fun _ => ?_) (h := (by simp (disch := omega) [e, Tr.av]; with_reducible rfl)); (first | (refine de (hs' := (by simp (disch := omega) [e, Tr.av]; with_reducible rfl)) (fun hb => ?_) (fun hb => ?_) <;> (try simp at hb) <;> try (exfalso; omega)) | (refine da 1 (fun _ => ?_) (h := (by simp (disch := omega) [e, Tr.av]; with_reducible rfl)))); all_goals (refine da 3 (fun _ => ?_) (h := (by simp (disch := omega) [e, Tr.av]; with_reducible rfl)); (first | (refine de (hs' := (by simp (disch := omega) [e, Tr.av]; with_reducible rfl)) (fun hb => ?_) (fun hb => ?_) <;> (try simp at hb) <;> try (exfalso; omega)) | (refine da 1 (fun _ => ?_) (h := (by simp (disch := omega) [e, Tr.av]; with_reducible rfl)))); all_goals (refine da 8 (fun _ => ?_) (h := (by simp (disch := omega) [e, Tr.av]; with_reducible rfl)); (first | (refine de (hs' := (by simp (disch := omega) [e, Tr.av]; with_reducible rfl)) (fun hb => ?_) (fun hb => ?_) <;> (try simp at hb) <;> try (exfalso; omega)) | (refine da 1 (fun _ => ?_) (h := (by simp (disch := omega) [e, Tr.av]; with_reducible rfl)))); all_goals (refine dl ?_ (h := (by simp (disch := omega) [e, Tr.av]; with_reducible rfl))))))
          | (refine ru ?_ (by simp (disch := omega) [e, Tr.av]; with_reducible rfl))
          | (refine awp_if rfl (fun hb => ?_) (fun hb => ?_) <;> (try simp at hb) <;> try (exfalso; omega))
          | fail
        all_goals first
          | (have ho : (isB (.node k n a b ks) (catB (headC (105 :: w))) && innerB (105 :: w) (.node k n a b ks)) = false := by clear h5 hh; simp_all [innerB, headC, Tr.kind]
             rw [ho, Bool.and_false] at h5
             have h6 := all_of_take _ l (i + 1) h5
             exact ⟨Gr.refl _, .bool false, by simp, by rw [h6]⟩)
          | (have ho : (isB (.node k n a b ks) (catB (headC (105 :: w))) && innerB (105 :: w) (.node k n a b ks)) = true := by clear h5 hh; simp_all [innerB, headC, Tr.kind]
             rw [ho, hh, Bool.and_true] at h5
             exact ⟨l.length - (i + 1), by omega, i + 1, rfl, by omega, h5, rfl, rfl, only_cons (by simp (disch := omega)) (only_cons (by simp) (only_cons (by simp) only_nil))⟩)
      · have hd' : ¬ (d.toNat : Int) = 105 := fun e => hd (UInt8.toNat_inj.1 (by show d.toNat = 105; omega))
        repeat' first
          | refine aSq ?_ | refine aRt ?_ | refine aSk ?_ | refine aBl ?_ | refine tN ?_ | refine tR ?_ | refine iR ?_
          | (refine dr 7 [(0, true), (1, true), (2, true), (3, true), (4, true), (5, true), (6, false), (7, false), (8, true), (9, true), (10, true), (11, true), (12, true), (13, true), (14, true), (15, true), (16, true), (17, true), (18, true), (19, true), (20, true), (21, true), (22, true), (23, true), (24, true), (25, true), (26, true), (27, true), (28, true), (29, true), (30, true), (31, true), (32, true), (33, true)] [] ?_; refine da 6 (fun _ => ?_) (h := (by simp (disch := omega) [e, Tr.av]; with_reducible rfl)); refine df en159 ?_; refine SF.then sf159 ?_; refine ⟨.inr rfl, ?_⟩; refine df en75 ?_; refine SF.then (hIH _ _) ?_; refine ⟨.inr rfl, ?_⟩; refine da 1 (fun _ => ?_) (h := (by simp (disch := omega) [e, Tr.av]; with_reducible rfl)); (first | (refine de (hs' := (by simp (disch := omega) [e, Tr.av]; with_reducible rfl)) (fun hb => ?_) (fun hb => ?_) <;> (try simp at hb) <;> try (exfalso; omega)) | (refine da 1 (fun _ => ?_) (h := (by simp (disch := omega) [e, Tr.av]; with_reducible rfl)))); all_goals (refine da 3 (fun _ => ?_) (h := (by simp (disch := omega) [e, Tr.av]; with_reducible rfl)); (first | (refine de (hs' := (by simp (disch := omega) [e, Tr.av]; with_reducible rfl)) (fun hb => ?_) (fun hb => ?_) <;> (try simp at hb) <;> try (exfalso; omega)) | (refine da 1 (fun _ => ?_) (h := (by simp (disch := omega) [e, Tr.av]; with_reducible rfl)))); all_goals (refine da 8 (fun _ => ?_) (h := (by simp (disch := omega) [e, Tr.av]; with_reducible rfl)); (first | (refine de (hs' := (by simp (disch := omega) [e, Tr.av]; with_reducible rfl)) (fun hb => ?_) (fun hb => ?_) <;> (try simp at hb) <;> try (exfalso; omega)) | (refine da 1 (fun _ => ?_) (h := (by simp (disch := omega) [e, Tr.av]; with_reducible rfl)))); all_goals (refine dl ?_ (h := (by simp (disch := omega) [e, Tr.av]; with_reducible rfl))))))
          | (refine ru ?_ (by simp (disch := omega) [e, Tr.av]; with_reducible rfl))
          | (refine awp_if rfl (fun hb => ?_) (fun hb => ?_) <;> (try simp at hb) <;> try (exfalso; omega))
          | fail
        all_goals first
          | (have ho : (isB (.node k n a b ks) (catB (headC (d :: w))) && innerB (d :: w) (.node k n a b ks)) = false := by clear h5 hh; simp_all [innerB, headC, Tr.kind]
             rw [ho, Bool.and_false] at h5
             have h6 := all_of_take _ l (i + 1) h5
             exact ⟨Gr.refl _, .bool false, by simp, by rw [h6]⟩)
          | (have ho : (isB (.node k n a b ks) (catB (headC (d :: w))) && innerB (d :: w) (.node k n a b ks)) = true := by clear h5 hh; simp_all [innerB, headC, Tr.kind]
             rw [ho, hh, Bool.and_true] at h5
             exact ⟨l.length - (i + 1), by omega, i + 1, rfl, by omega, h5, rfl, rfl, only_cons (by simp (disch := omega)) (only_cons (by simp) (only_cons (by simp) only_nil))⟩)
    · repeat' first
        | refine aSq ?_ | refine aRt ?_ | refine aEx ?_ | refine tN ?_ | refine tR ?_
        | refine ru ?_
        | (refine awp_if rfl (fun hb => ?_) (fun hb => ?_) <;> (try simp at hb) <;> try (exfalso; omega))
        | fail
      rw [List.take_of_length_le (by omega)] at hh
      exact ⟨Gr.refl _, .bool true, by simp, by rw [hh]⟩
end Go.Av
namespace Go.Av
open Go.Proofs
variable {W0 : World} {N : Nat}
set_option maxRecDepth 10000
set_option maxHeartbeats 4000000
theorem sf118_A (IH : ∀ (t : Tr) (c : Int) (H : Hp), t.cnt ≤ N → t.good → SF Tryz.prog W0 75 [t.av, .int .i64 c] H fun r H' => H' = H ∧ r = .bool (isB t c))
    {l : List Tr} {w : Str} {own : Own} {H : Hp} (hN : Tr.cnts l ≤ N) (hg : Tr.goods l) : SF Tryz.prog W0 118 [.sl 1 (Tr.avs l) own, .str (65 :: w)] H fun r H' => H' = H ∧ r = .bool (kidsB l (65 :: w)) := by
  refine SF.pureLe (sf_start [4] 141 Tryz.func118 rfl rfl rfl (by decide) (by simp) ?_)
  rw [kidsB_A]
  have hlen := hg.1
  repeat' first
    | refine aSq ?_ | refine aSk ?_ | refine aBl ?_ | refine tN ?_
    | (refine rg 10 ?_; refine tk 3 ?_; (first | (refine te (fun hb => ?_) (fun hb => ?_) <;> (try simp at hb) <;> try (exfalso; omega)) | (refine tk 1 ?_)); all_goals (refine tk 4 ?_; refine dn ?_))
    | refine ru ?_
    | (refine awp_if rfl (fun hb => ?_) (fun hb => ?_) <;> (try simp at hb) <;> try (exfalso; omega))
    | fail
  refine awp_loop_inv (fun q st => ∃ i : Nat, q = l.length - i ∧ i ≤ l.length ∧ (l.take i).all (fun t => isB t 9) = true ∧ Sub st ⟨141, [(6, .int .i64 i), (0, .sl 1 (Tr.avs l) own), (1, .str (65 :: w))], H⟩) l.length ⟨0, by simp, by simp, by simp, ⟨rfl, rfl, only_cons (by simp) (only_cons (by simp) (only_cons (by simp) only_nil))⟩⟩ ?_
  rintro q st ⟨i, rfl, hi, hh, hs2⟩
  refine awp_sub hs2 ?_
  clear hs2 st
  rcases Nat.lt_or_ge i l.length with hlt | hge
  · have hgi := hg.2 _ (List.getElem_mem hlt)
    have hci := Tr.cnts_le l i hlt
    have h5 := all_take_succ (fun t => isB t 9) l i hlt
    repeat' first
      | refine aSq ?_ | refine aRt ?_ | refine aSk ?_ | refine aEx ?_ | refine aBl ?_ | refine tN ?_ | refine tR ?_ | refine tE ?_ | refine iR ?_
      | (refine rg 14 ?_; refine tk 3 ?_; (first | (refine te (fun hb => ?_) (fun hb => ?_) <;> (try simp at hb) <;> try (exfalso; omega)) | (refine tk 1 ?_)); all_goals (refine tk 4 ?_; (first | (refine fg en75 ?_; refine SF.then (IH l[i] _ _ (by omega) hgi) ?_) | (refine tk 1 ?_)); refine tk 2 ?_; (first | (refine te (fun hb => ?_) (fun hb => ?_) <;> (try simp at hb) <;> try (exfalso; omega)) | (refine tk 1 ?_)); all_goals (refine tk 3 ?_; (first | (refine te (fun hb => ?_) (fun hb => ?_) <;> (try simp at hb) <;> try (exfalso; omega)) | (refine tk 1 ?_)); all_goals (refine tk 4 ?_; (first | (refine fg en75 ?_; refine SF.then (IH l[i] _ _ (by omega) hgi) ?_) | (refine tk 1 ?_)); refine tk 3 ?_; refine dn ?_))))
      | (refine rg 17 ?_; refine tk 3 ?_; (first | (refine te (fun hb => ?_) (fun hb => ?_) <;> (try simp at hb) <;> try (exfalso; omega)) | (refine tk 1 ?_)); all_goals (refine tk 4 ?_; refine dn ?_))
      | refine ru ?_
      | (refine awp_if rfl (fun hb => ?_) (fun hb => ?_) <;> (try simp at hb) <;> try (exfalso; omega))
      | (refine awp_loop 1 ?_)
      | fail
    · have hb1 : isB l[i] 9 = false := by assumption
      rw [hb1, Bool.and_false] at h5
      have h6 := all_of_take _ l (i + 1) h5
      exact ⟨Gr.refl _, .bool false, by simp, by rw [h6]; simp⟩
    all_goals
      (have hb1 : isB l[i] 9 = true := by assumption
       rw [hb1, hh, Bool.and_true] at h5
       exact ⟨l.length - (i + 1), by omega, i + 1, rfl, by omega, h5, rfl, rfl, only_cons (by simp (disch := omega)) (only_cons (by simp) (only_cons (by simp) only_nil))⟩)
  · repeat' first
      | refine aSq ?_ | refine aRt ?_ | refine aEx ?_ | refine tN ?_ | refine tR ?_
      | refine ru ?_
      | (refine awp_if rfl (fun hb => ?_) (fun hb => ?_) <;> (try simp at hb) <;> try (exfalso; omega))
      | fail
    rw [List.take_of_length_le (by omega)] at hh
    have e : decide (l ≠ []) = decide (0 < l.length) := by cases l <;> simp
    exact ⟨Gr.refl _, .bool (decide (0 < l.length)), by simp, by rw [hh, e]; simp⟩
theorem distinct_nodup : ∀ l : List Str, distinctB l = true ↔ l.Nodup
  | [] => by simp [distinctB]
  | x :: l => by simp [distinctB, distinct_nodup l]
theorem map_take_succ (l : List Tr) (i : Nat) (h : i < l.length) : (l.take (i + 1)).map Tr.name = (l.take i).map Tr.name ++ [(l[i]).name] := by
  rw [List.take_add_one, List.getElem?_eq_getElem h, List.map_append]; rfl
theorem sf118_C (IH : ∀ (t : Tr) (c : Int) (H : Hp), t.cnt ≤ N → t.good → SF Tryz.prog W0 75 [t.av, .int .i64 c] H fun r H' => H' = H ∧ r = .bool (isB t c))
    {l : List Tr} {w : Str} {own : Own} {H : Hp} (hN : Tr.cnts l ≤ N) (hg : Tr.goods l) : SF Tryz.prog W0 118 [.sl 1 (Tr.avs l) own, .str (67 :: w)] H fun r H' => H' = H ∧ r = .bool (kidsB l (67 :: w)) := by
  refine SF.pureLe (sf_start [4] 141 Tryz.func118 rfl rfl rfl (by decide) (by simp) ?_)
  rw [kidsB_C]
  have hlen := hg.1
  repeat' first
    | refine aSq ?_ | refine aSk ?_ | refine aBl ?_ | refine tN ?_
    | (refine rg 10 ?_; refine tk 3 ?_; (first | (refine te (fun hb => ?_) (fun hb => ?_) <;> (try simp at hb) <;> try (exfalso; omega)) | (refine tk 1 ?_)); all_goals (refine tk 4 ?_; refine dn ?_))
    | refine ru ?_
    | (refine awp_if rfl (fun hb => ?_) (fun hb => ?_) <;> (try simp at hb) <;> try (exfalso; omega))
    | fail
  refine awp_loop_inv (fun q st => ∃ i : Nat, q = l.length - i ∧ i ≤ l.length ∧ (l.take i).all (fun t => isB t 8) = true ∧ ((l.take i).map Tr.name).Nodup ∧ Sub st ⟨141, [(6, .int .i64 i), (0, .sl 1 (Tr.avs l) own), (1, .str (67 :: w))], H⟩) l.length ⟨0, by simp, by simp, by simp, by simp, ⟨rfl, rfl, only_cons (by simp) (only_cons (by simp) (only_cons (by simp) only_nil))⟩⟩ ?_
  rintro q st ⟨i, rfl, hi, hh, hnd, hs2⟩
  refine awp_sub hs2 ?_
  clear hs2 st
  rcases Nat.lt_or_ge i l.length with hlt | hge
  · have hgi := hg.2 _ (List.getElem_mem hlt)
    have hci := Tr.cnts_le l i hlt
    have h5 := all_take_succ (fun t => isB t 8) l i hlt
    have hms := map_take_succ l i hlt
    obtain ⟨k1, n1, a1, b1, ks1, e1⟩ := good_node hgi
    have hIH := fun c H => IH l[i] c H (by omega) hgi
    rw [e1] at h5 hms hIH
    simp only [Tr.av] at hIH
    repeat' first
      | refine aSq ?_ | refine aRt ?_ | refine aSk ?_ | refine aBl ?_ | refine tN ?_ | refine tR ?_ | refine iR ?_
      | (refine rg 14 ?_; refine tk 3 ?_ (by simp (disch := omega) [e1, Tr.av]; with_reducible rfl); (first | (refine te (hs := (by simp (disch := omega) [e1, Tr.av]; with_reducible rfl)) (fun hb => ?_) (fun hb => ?_) <;> (try simp at hb) <;> try (exfalso; omega)) | (refine tk 1 ?_ (by simp (disch := omega) [e1, Tr.av]; with_reducible rfl))); all_goals (refine tk 4 ?_ (by simp (disch := omega) [e1, Tr.av]; with_reducible rfl); (first | (refine fg en75 ?_; refine SF.then (hIH _ _) ?_) | (refine tk 1 ?_ (by simp (disch := omega) [e1, Tr.av]; with_reducible rfl))); refine tk 2 ?_ (by simp (disch := omega) [e1, Tr.av]; with_reducible rfl); (first | (refine te (hs := (by simp (disch := omega) [e1, Tr.av]; with_reducible rfl)) (fun hb => ?_) (fun hb => ?_) <;> (try simp at hb) <;> try (exfalso; omega)) | (refine tk 1 ?_ (by simp (disch := omega) [e1, Tr.av]; with_reducible rfl))); all_goals (refine tk 3 ?_ (by simp (disch := omega) [e1, Tr.av]; with_reducible rfl); (first | (refine te (hs := (by simp (disch := omega) [e1, Tr.av]; with_reducible rfl)) (fun hb => ?_) (fun hb => ?_) <;> (try simp at hb) <;> try (exfalso; omega)) | (refine tk 1 ?_ (by simp (disch := omega) [e1, Tr.av]; with_reducible rfl))); all_goals (refine tk 4 ?_ (by simp (disch := omega) [e1, Tr.av]; with_reducible rfl); (first | (refine fg en75 ?_; refine SF.then (hIH _ _) ?_) | (refine tk 1 ?_ (by simp (disch := omega) [e1, Tr.av]; with_reducible rfl))); refine tk 3 ?_ (by simp (disch := omega) [e1, Tr.av]; with_reducible rfl); refine dn ?_))))
      | (refine ru ?_ (by simp (disch := omega) [e1, Tr.av]; with_reducible rfl))
      | (refine awp_if rfl (fun hb => ?_) (fun hb => ?_) <;> (try simp at hb) <;> try (exfalso; omega))
      | fail
    · have hb1 : isB (.node k1 n1 a1 b1 ks1) 8 = false := by assumption
      rw [hb1, Bool.and_false] at h5
      have h6 := all_of_take _ l (i + 1) h5
      exact ⟨Gr.refl _, .bool false, by simp, by rw [h6]; simp⟩
    · have hb1 : isB (.node k1 n1 a1 b1 ks1) 8 = true := by assumption
      rw [hb1, hh, Bool.and_true] at h5
      refine awp_loop_inv (fun q st => ∃ j : Nat, q = i - j ∧ j ≤ i ∧ (∀ x (hx : x < l.length), x < j → (l[x]).name ≠ a1) ∧ Sub st ⟨141, [(7, .int .i64 j), (6, .int .i64 i), (0, .sl 1 (Tr.avs l) own), (1, .str (67 :: w))], H⟩) i ⟨0, by simp, by simp, fun _ _ h => absurd h (Nat.not_lt_zero _), ⟨rfl, rfl, only_cons (by simp) (only_cons (by simp) (only_cons (by simp) (only_cons (by simp) only_nil)))⟩⟩ ?_
      rintro q st ⟨j, rfl, hj, hne, hs2⟩
      refine awp_sub hs2 ?_
      clear hs2 st
      rcases Nat.lt_or_ge j i with hji | hji
      · have hjl : j < l.length := by omega
        obtain ⟨k2, n2, a2, b2, ks2, e2⟩ := good_node (hg.2 _ (List.getElem_mem hjl))
        repeat' first
          | refine aSq ?_ | refine aRt ?_ | refine aSk ?_ | refine aBl ?_ | refine tN ?_ | refine tR ?_ | refine iR ?_
          | (refine rg 17 ?_; refine tk 3 ?_ (by simp (disch := omega) [e1, e2, Tr.av]; with_reducible rfl); (first | (refine te (hs := (by simp (disch := omega) [e1, e2, Tr.av]; with_reducible rfl)) (fun hb => ?_) (fun hb => ?_) <;> (try simp at hb) <;> try (exfalso; omega)) | (refine tk 1 ?_ (by simp (disch := omega) [e1, e2, Tr.av]; with_reducible rfl))); all_goals (refine tk 4 ?_ (by simp (disch := omega) [e1, e2, Tr.av]; with_reducible rfl); refine dn ?_))
          | (refine dr 19 [(0, true), (1, true), (2, true), (3, true), (4, true), (5, true), (6, true), (7, true), (8, true), (9, true), (10, true), (11, true), (12, true), (13, true), (14, true)] [] ?_; refine dl ?_ (h := (by simp (disch := omega) [e1, e2, Tr.av]; with_reducible rfl)))
          | (refine ru ?_ (by simp (disch := omega) [e1, e2, Tr.av]; with_reducible rfl))
          | (refine awp_if rfl (fun hb => ?_) (fun hb => ?_) <;> (try simp at hb) <;> try (exfalso; omega))
          | fail
        · have hdn : distinctB (l.map Tr.name) = false := by
            rw [← Bool.not_eq_true, distinct_nodup]
            intro hn
            have q : (l.map Tr.name)[j]'(by simpa using hjl) = (l.map Tr.name)[i]'(by simpa using hlt) := by simp [e1, e2, Tr.name, hb]
            have := (List.getElem_inj hn).1 q
            omega
          exact ⟨Gr.refl _, .bool false, by simp, by rw [hdn]; simp⟩
        · refine ⟨i - (j + 1), by omega, j + 1, rfl, by omega, fun x hx hxj => ?_, rfl, rfl, only_cons (by simp (disch := omega)) (only_cons (by simp) (only_cons (by simp) (only_cons (by simp) only_nil)))⟩
          have hab : ¬ a2 = a1 := hb
          rcases Nat.lt_or_ge x j with q | q
          · exact hne x hx q
          · have : x = j := by omega
            subst this
            rw [e2]; exact hab
      · repeat' first
          | refine aSq ?_ | refine aEx ?_ | refine tN ?_ | refine tE ?_
          | (refine rg 17 ?_; refine tk 3 ?_ (by simp (disch := omega) [e1, Tr.av]; with_reducible rfl); (first | (refine te (hs := (by simp (disch := omega) [e1, Tr.av]; with_reducible rfl)) (fun hb => ?_) (fun hb => ?_) <;> (try simp at hb) <;> try (exfalso; omega)) | (refine tk 1 ?_ (by simp (disch := omega) [e1, Tr.av]; with_reducible rfl))); all_goals (refine tk 4 ?_ (by simp (disch := omega) [e1, Tr.av]; with_reducible rfl); refine dn ?_))
          | (refine ru ?_ (by simp (disch := omega) [e1, Tr.av]; with_reducible rfl))
          | (refine awp_if rfl (fun hb => ?_) (fun hb => ?_) <;> (try simp at hb) <;> try (exfalso; omega))
          | fail
        have hij : j = i := by omega
        refine ⟨l.length - (i + 1), by omega, i + 1, rfl, by omega, h5, ?_, rfl, rfl, only_cons (by simp (disch := omega)) (only_cons (by simp) (only_cons (by simp) only_nil))⟩
        rw [hms, List.nodup_append]
        refine ⟨hnd, by simp, fun x hx y hy hxy => ?_⟩
        simp only [List.mem_singleton] at hy
        obtain ⟨t, ht, rfl⟩ := List.mem_map.1 hx
        obtain ⟨x, hx2, rfl⟩ := List.getElem_of_mem ht
        simp only [List.length_take] at hx2
        rw [List.getElem_take] at hxy
        exact hne x (by omega) (by omega) (by rw [hxy, hy]; rfl)
  · repeat' first
      | refine aSq ?_ | refine aRt ?_ | refine aEx ?_ | refine tN ?_ | refine tR ?_
      | refine ru ?_
      | (refine awp_if rfl (fun hb => ?_) (fun hb => ?_) <;> (try simp at hb) <;> try (exfalso; omega))
      | fail
    rw [List.take_of_length_le (by omega)] at hh hnd
    have e : decide (l ≠ []) = decide (0 < l.length) := by cases l <;> simp
    exact ⟨Gr.refl _, .bool (decide (0 < l.length)), by simp, by rw [hh, e, (distinct_nodup _).2 hnd]; simp⟩
theorem sf118 (IH : ∀ (t : Tr) (c : Int) (H : Hp), t.cnt ≤ N → t.good → SF Tryz.prog W0 75 [t.av, .int .i64 c] H fun r H' => H' = H ∧ r = .bool (isB t c)) :
    ∀ (w : Str) (l : List Tr) (own : Own) (H : Hp), Tr.cnts l ≤ N → Tr.goods l → okW w = true → SF Tryz.prog W0 118 [.sl 1 (Tr.avs l) own, .str w] H fun r H' => H' = H ∧ r = .bool (kidsB l w) := by
  intro w
  induction w with
  | nil =>
    intro l own H hN hg hw
    refine SF.pureLe (sf_start [4] 141 Tryz.func118 rfl rfl rfl (by decide) (by simp) ?_)
    repeat' first
      | refine aSq ?_ | refine aRt ?_ | refine tN ?_ | refine tR ?_
      | refine ru ?_
      | (refine awp_if rfl (fun hb => ?_) (fun hb => ?_) <;> (try simp at hb) <;> try (exfalso; omega))
      | fail
    have e : kidsB l [] = ((l.length : Int) == 0) := by cases l <;> simp [kidsB]; omega
    exact ⟨Gr.refl _, .bool ((l.length : Int) == 0), by simp, by rw [e]⟩
  | cons c w ih =>
    intro l own H hN hg hw
    by_cases h42 : c = 42
    · subst h42; exact sf118_star IH hN hg hw
    by_cases h67 : c = 67
    · subst h67; exact sf118_C IH hN hg
    by_cases h65 : c = 65
    · subst h65; exact sf118_A IH hN hg
    have g42 : ¬ (c.toNat : Int) = 42 := fun e => h42 (UInt8.toNat_inj.1 (by show c.toNat = 42; omega))
    have g67 : ¬ (c.toNat : Int) = 67 := fun e => h67 (UInt8.toNat_inj.1 (by show c.toNat = 67; omega))
    have g65 : ¬ (c.toNat : Int) = 65 := fun e => h65 (UInt8.toNat_inj.1 (by show c.toNat = 65; omega))
    refine SF.pureLe (sf_start [4] 141 Tryz.func118 rfl rfl rfl (by decide) (by simp) ?_)
    cases l with
    | nil =>
      repeat' first
        | refine aSq ?_ | refine aRt ?_ | refine aSk ?_ | refine tN ?_
        | (refine rg 10 ?_; refine tk 3 ?_; (first | (refine te (fun hb => ?_) (fun hb => ?_) <;> (try simp at hb) <;> try (exfalso; omega)) | (refine tk 1 ?_)); all_goals (refine tk 4 ?_; refine dn ?_))
        | (refine dr 22 [(0, true), (1, true), (2, true), (3, true), (4, true), (5, true), (6, true), (7, true), (8, true), (9, false), (10, false), (11, true), (12, true), (13, true), (14, true), (15, true), (16, true), (17, false), (18, true), (19, true)] [] ?_; refine da 3 fun _ => ?_; (first | (refine de (fun hb => ?_) (fun hb => ?_) <;> (try simp at hb) <;> try (exfalso; omega)) | (refine da 1 fun _ => ?_)); all_goals (refine da 5 fun _ => ?_; (first | (refine dg en159 ?_; refine SF.then (sf159 ..) ?_; refine ⟨.inr rfl, ?_⟩) | (refine ds ?_)); (first | (refine dg en75 ?_; refine SF.then (sf75 ..) ?_; refine ⟨.inr rfl, ?_⟩) | (refine ds ?_)); refine da 1 fun _ => ?_; (first | (refine de (fun hb => ?_) (fun hb => ?_) <;> (try simp at hb) <;> try (exfalso; omega)) | (refine da 1 fun _ => ?_)); all_goals (refine da 4 fun _ => ?_; (first | (refine dg en118 ?_; refine SF.then (sf118 ..) ?_; refine ⟨.inr rfl, ?_⟩) | (refine ds ?_)); refine dl ?_)))
        | refine ru ?_
        | (refine awp_if rfl (fun hb => ?_) (fun hb => ?_) <;> (try simp at hb) <;> try (exfalso; omega))
        | fail
      exact ⟨Gr.refl _, .bool false, by simp, by simp [kidsB, h42]⟩
    | cons t l =>
      have hl1 : (1 : Int) ≤ (l.length : Int) + 1 := by omega
      have hw1 : (1 : Int) ≤ (w.length : Int) + 1 := by omega
      have htl : (Tr.avs (t :: l)).tail = Tr.avs l := rfl
      repeat' first
        | refine aSq ?_ | refine aRt ?_ | refine aSk ?_ | refine tN ?_
        | (refine rg 10 ?_; refine tk 3 ?_ (by simp (disch := omega) [hl1, hw1, htl]; with_reducible rfl); (first | (refine te (hs := (by simp (disch := omega) [hl1, hw1, htl]; with_reducible rfl)) (fun hb => ?_) (fun hb => ?_) <;> (try simp at hb) <;> try (exfalso; omega)) | (refine tk 1 ?_ (by simp (disch := omega) [hl1, hw1, htl]; with_reducible rfl))); all_goals (refine tk 4 ?_ (by simp (disch := omega) [hl1, hw1, htl]; with_reducible rfl); refine dn ?_))
        | (refine dr 22 [(0, true), (1, true), (2, true), (3, true), (4, true), (5, true), (6, true), (7, true), (8, true), (9, false), (10, false), (11, true), (12, true), (13, true), (14, true), (15, true), (16, true), (17, false), (18, true), (19, true)] [] ?_; refine da 3 (fun _ => ?_) (h := (by simp (disch := omega) [hl1, hw1, htl]; with_reducible rfl)); (first | (refine de (hs' := (by simp (disch := omega) [hl1, hw1, htl]; with_reducible rfl)) (fun hb => ?_) (fun hb => ?_) <;> (try simp at hb) <;> try (exfalso; omega)) | (refine da 1 (fun _ => ?_) (h := (by simp (disch := omega) [hl1, hw1, htl]; with_reducible rfl)))); all_goals (refine da 5 (fun _ => ?_) (h := (by simp (disch := omega) [hl1, hw1, htl]; with_reducible rfl)); (first | (refine dg en159 ?_; refine SF.then sf159 ?_; refine ⟨.inr rfl, ?_⟩) | (refine ds ?_ (hs' := (by simp (disch := omega) [hl1, hw1, htl]; with_reducible rfl)))); (first | (refine dg en75 ?_; refine SF.then (IH t _ _ (by simp only [Tr.cnts] at hN; omega) (hg.2 t (by simp))) ?_; refine ⟨.inr rfl, ?_⟩) | (refine ds ?_ (hs' := (by simp (disch := omega) [hl1, hw1, htl]; with_reducible rfl)))); refine da 1 (fun _ => ?_) (h := (by simp (disch := omega) [hl1, hw1, htl]; with_reducible rfl)); (first | (refine de (hs' := (by simp (disch := omega) [hl1, hw1, htl]; with_reducible rfl)) (fun hb => ?_) (fun hb => ?_) <;> (try simp at hb) <;> try (exfalso; omega)) | (refine da 1 (fun _ => ?_) (h := (by simp (disch := omega) [hl1, hw1, htl]; with_reducible rfl)))); all_goals (refine da 4 (fun _ => ?_) (h := (by simp (disch := omega) [hl1, hw1, htl]; with_reducible rfl)); (first | (refine dg en118 ?_; refine SF.then (ih l _ _ (by simp only [Tr.cnts] at hN; omega) ⟨by have := hg.1; simp only [List.length_cons] at this; omega, fun t ht => hg.2 t (by simp [ht])⟩ (by simpa [okW, h42] using hw)) ?_; refine ⟨.inr rfl, ?_⟩) | (refine ds ?_ (hs' := (by simp (disch := omega) [hl1, hw1, htl]; with_reducible rfl)))); refine dl ?_ (h := (by simp (disch := omega) [hl1, hw1, htl]; with_reducible rfl)))))
        | (refine ru ?_ (by simp (disch := omega) [hl1, hw1, htl]; with_reducible rfl))
        | (refine awp_if rfl (fun hb => ?_) (fun hb => ?_) <;> (try simp at hb) <;> try (exfalso; omega))
        | fail
      all_goals (simp [retQ, kidsB, h42, h67, h65, *])
end Go.Av
namespace Go.Av
open Go.Proofs
variable {W0 : World}
set_option maxRecDepth 10000
set_option maxHeartbeats 4000000
def fitB (k n c : Int) (a b : Str) (l : List Tr) (r : RowM) : Bool := r.cat == c && (r.kind == k && (wordB a r.nm && (wordB b r.mrk && (decide (r.lo ≤ n) && (decide (n ≤ r.hi) && kidsB l r.kids)))))
theorem sf75 : ∀ (N : Nat) (t : Tr) (c : Int) (H : Hp), t.cnt ≤ N → t.good → SF Tryz.prog W0 75 [t.av, .int .i64 c] H fun r H' => H' = H ∧ r = .bool (isB t c) := by
  intro N
  induction N with
  | zero =>
    intro t c H hN hg
    obtain ⟨k, n, a, b, l, rfl⟩ := good_node hg
    simp [Tr.cnt] at hN
  | succ N ih =>
    intro t c H hN hg
    refine SF.pureLe (sf_start [4] 77 Tryz.func75 rfl rfl rfl (by decide) (by simp) ?_)
    obtain ⟨k, n, a, b, l, rfl⟩ := good_node hg
    have hkg := Tr.good_kids hg
    simp only [Tr.av]
    simp only [Tr.cnt] at hN
    have ha := hg.1.1
    have hb0 := hg.1.2.1
    have hrl : rowsAV.length = 47 := rfl
    have hrl2 : rowsL.length = 47 := rfl
    have hok := rows_ok
    have hisB : isB (.node k n a b l) c = rowsL.any (fitB k n c a b l) := by simp only [isB]; rfl
    rw [hisB]
    repeat' first
      | refine aSq ?_ | refine aBl ?_
      | (refine rg 1 ?_; refine fc en116 ?_; refine SF.then sf116 ?_; refine tk 1 ?_; refine dn ?_)
      | refine ru ?_
      | fail
    refine awp_loop_inv (fun q st => ∃ (i : Nat) (Hc : Hp), q = 47 - i ∧ i ≤ 47 ∧ Gr H Hc ∧ (rowsL.take i).any (fitB k n c a b l) = false ∧
      Sub st ⟨77, [(6, .int .i64 i), (5, .sl 7 rowsAV .shut), (0, (Tr.node k n a b l).av), (1, .int .i64 c)], Hc⟩) 47 ⟨0, H, by simp, by simp, Gr.refl _, by simp, ⟨rfl, rfl, only_cons (by simp) (only_cons (by simp) (only_cons (by simp [Tr.av]) (only_cons (by simp) only_nil)))⟩⟩ ?_
    rintro q st ⟨i, Hc, rfl, hi, hg1, hh, hs2⟩
    refine awp_sub hs2 ?_
    clear hs2 st
    simp only [Tr.av]
    rcases Nat.lt_or_ge i 47 with hlt | hge
    · obtain ⟨r, hr⟩ : ∃ r, r = rowsL[i] := ⟨_, rfl⟩
      have h5 : (rowsL.take (i + 1)).any (fitB k n c a b l) = ((rowsL.take i).any (fitB k n c a b l) || fitB k n c a b l r) := by rw [hr]; exact any_take_succ _ rowsL i (by omega)
      have hri : rowsAV[i]? = some r.av := by unfold rowsAV; rw [List.getElem?_map, List.getElem?_eq_getElem (by omega), hr]; rfl
      have hrk : okW r.kids = true := by rw [hr]; exact hok rowsL[i] (List.getElem_mem _)
      have hri2 : ∀ h : i < rowsAV.length, rowsAV[i]'h = r.av := fun h => by rw [List.getElem_eq_iff]; exact hri
      clear hr hok
      repeat' first
        | refine aSq ?_ | refine aRt ?_ | refine aSk ?_ | refine aBl ?_ | refine tN ?_ | refine tR ?_ | refine iR ?_
        | (refine dr 6 [(0, true), (1, true), (2, true), (3, true), (4, true), (5, true), (6, true), (7, true), (8, true), (9, true), (10, true), (11, true), (12, true), (13, true), (14, true), (15, true), (16, true), (17, true), (18, true), (19, true), (20, false), (21, true), (22, true), (23, true), (24, true), (25, true), (26, true), (27, true), (28, true), (29, false), (30, true), (31, true), (32, true), (33, true), (34, true), (35, true), (36, true), (37, true), (38, true), (39, true), (40, true), (41, true), (42, true), (43, true), (44, true), (45, true), (46, true), (47, true), (48, true), (49, true), (50, true), (51, true), (52, true), (53, true), (54, true), (55, true), (56, false), (57, true)] [] ?_; refine da 4 (fun _ => ?_) (h := (by simp (disch := omega) [hri, hri2, hrl, RowM.av]; with_reducible rfl)); (first | (refine de (hs' := (by simp (disch := omega) [hri, hri2, hrl, RowM.av]; with_reducible rfl)) (fun hb => ?_) (fun hb => ?_) <;> (try simp at hb) <;> try (exfalso; omega)) | (refine da 1 (fun _ => ?_) (h := (by simp (disch := omega) [hri, hri2, hrl, RowM.av]; with_reducible rfl)))); all_goals (refine da 8 (fun _ => ?_) (h := (by simp (disch := omega) [hri, hri2, hrl, RowM.av]; with_reducible rfl)); (first | (refine de (hs' := (by simp (disch := omega) [hri, hri2, hrl, RowM.av]; with_reducible rfl)) (fun hb => ?_) (fun hb => ?_) <;> (try simp at hb) <;> try (exfalso; omega)) | (refine da 1 (fun _ => ?_) (h := (by simp (disch := omega) [hri, hri2, hrl, RowM.av]; with_reducible rfl)))); all_goals (refine da 6 (fun _ => ?_) (h := (by simp (disch := omega) [hri, hri2, hrl, RowM.av]; with_reducible rfl)); (first | (refine dg en117 ?_; refine SF.then (sf117 (by omega)) ?_; refine ⟨.inr rfl, ?_⟩) | (refine ds ?_ (hs' := (by simp (disch := omega) [hri, hri2, hrl, RowM.av]; with_reducible rfl)))); refine da 1 (fun _ => ?_) (h := (by simp (disch := omega) [hri, hri2, hrl, RowM.av]; with_reducible rfl)); (first | (refine de (hs' := (by simp (disch := omega) [hri, hri2, hrl, RowM.av]; with_reducible rfl)) (fun hb => ?_) (fun hb => ?_) <;> (try simp at hb) <;> try (exfalso; omega)) | (refine da 1 (fun _ => ?_) (h := (by simp (disch := omega) [hri, hri2, hrl, RowM.av]; with_reducible rfl)))); all_goals (refine da 6 (fun _ => ?_) (h := (by simp (disch := omega) [hri, hri2, hrl, RowM.av]; with_reducible rfl)); (first | (refine dg en117 ?_; refine SF.then (sf117 (by omega)) ?_; refine ⟨.inr rfl, ?_⟩) | (refine ds ?_ (hs' := (by simp (disch := omega) [hri, hri2, hrl, RowM.av]; with_reducible rfl)))); refine da 1 (fun _ => ?_) (h := (by simp (disch := omega) [hri, hri2, hrl, RowM.av]; with_reducible rfl)); (first | (refine de (hs' := (by simp (disch := omega) [hri, hri2, hrl, RowM.av]; with_reducible rfl)) (fun hb => ?_) (fun hb => ?_) <;> (try simp at hb) <;> try (exfalso; omega)) | (refine da 1 (fun _ => ?_) (h := (by simp (disch := omega) [hri, hri2, hrl, RowM.av]; with_reducible rfl)))); all_goals (refine da 8 (fun _ => ?_) (h := (by simp (disch := omega) [hri, hri2, hrl, RowM.av]; with_reducible rfl)); (first | (refine de (hs' := (by simp (disch := omega) [hri, hri2, hrl, RowM.av]; with_reducible rfl)) (fun hb => ?_) (fun hb => ?_) <;> (try simp at hb) <;> try (exfalso; omega)) | (refine da 1 (fun _ => ?_) (h := (by simp (disch := omega) [hri, hri2, hrl, RowM.av]; with_reducible rfl)))); all_goals (refine da 8 (fun _ => ?_) (h := (by simp (disch := omega) [hri, hri2, hrl, RowM.av]; with_reducible rfl)); (first | (refine de (hs' := (by simp (disch := omega) [hri, hri2, hrl, RowM.av]; with_reducible rfl)) (fun hb => ?_) (fun hb => ?_) <;> (try simp at hb) <;> try (exfalso; omega)) | (refine da 1 (fun _ => ?_) (h := (by simp (disch := omega) [hri, hri2, hrl, RowM.av]; with_reducible rfl)))); all_goals (refine da 6 (fun _ => ?_) (h := (by simp (disch := omega) [hri, hri2, hrl, RowM.av]; with_reducible rfl)); (first | (refine dg en118 ?_; refine SF.then (sf118 ih _ _ _ _ (by omega) hkg hrk) ?_; refine ⟨.inr rfl, ?_⟩) | (refine ds ?_ (hs' := (by simp (disch := omega) [hri, hri2, hrl, RowM.av]; with_reducible rfl)))); refine dl ?_ (h := (by simp (disch := omega) [hri, hri2, hrl, RowM.av]; with_reducible rfl)))))))))
        | (refine ru ?_ (by simp (disch := omega) [hri, hri2, hrl, RowM.av]; with_reducible rfl))
        | (refine awp_if rfl (fun hb => ?_) (fun hb => ?_) <;> (try simp at hb) <;> try (exfalso; omega))
        | fail
      · have hq : fitB k n c a b l r = true := by
          have q1 : r.cat = c := by assumption
          have q2 : r.kind = k := by assumption
          have q3 : wordB a r.nm = true := by assumption
          have q4 : wordB b r.mrk = true := by assumption
          have q5 : r.lo ≤ n := by assumption
          have q6 : n ≤ r.hi := by assumption
          have q7 : kidsB l r.kids = true := by assumption
          simp only [fitB, q1, q2, q3, q4, q5, q6, q7]; simp
        rw [hq, Bool.or_true] at h5
        have h6 := any_of_take _ _ _ h5
        exact ⟨hg1.obj _, .bool true, by simp, by rw [h6]⟩
      all_goals
        (have hq : fitB k n c a b l r = false := by
           unfold fitB
           first
             | (have q : ¬ r.cat = c := by assumption
                simp [q]; done)
             | (have q : ¬ r.kind = k := by assumption
                simp [q]; done)
             | (have q : wordB a r.nm = false := by assumption
                simp [q]; done)
             | (have q : wordB b r.mrk = false := by assumption
                simp [q]; done)
             | (have q : ¬ r.lo ≤ n := by omega
                simp [q]; done)
             | (have q : ¬ n ≤ r.hi := by omega
                simp [q]; done)
             | (have q : kidsB l r.kids = false := by assumption
                simp [q]; done)
         rw [hq, hh] at h5
         exact ⟨47 - (i + 1), by omega, i + 1, _, rfl, by omega, hg1.obj _, h5, rfl, rfl, only_cons (by simp (disch := omega)) (only_cons (by simp) (only_cons (by simp [Tr.av]) (only_cons (by simp) only_nil)))⟩)
    · repeat' first
        | refine aSq ?_ | refine aRt ?_ | refine aEx ?_ | refine tN ?_
        | (refine ru ?_ (by simp (disch := omega) [hrl]; with_reducible rfl))
        | (refine awp_if rfl (fun hb => ?_) (fun hb => ?_) <;> (try simp at hb) <;> try (exfalso; omega))
        | fail
      rw [List.take_of_length_le (by omega)] at hh
      exact ⟨hg1, .bool false, by simp, by rw [hh]⟩
end Go.Av
