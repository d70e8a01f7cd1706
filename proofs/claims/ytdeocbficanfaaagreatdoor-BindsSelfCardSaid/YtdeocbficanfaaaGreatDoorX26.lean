/-
  Go read by value: lemmas (part 26): D20, D21, D22, D23, D24.
-/
import Derived.Test.YtdeocbficanfaaaGreatDoorX18
import Derived.Test.YtdeocbficanfaaaGreatDoorX20
set_option linter.unusedVariables false
set_option linter.unusedSimpArgs false
set_option linter.unusedSectionVars false
namespace Go.Av
open Go.Proofs
variable {W0 : World}
set_option maxRecDepth 10000
set_option maxHeartbeats 4000000
theorem sf144k {k n : Int} {a b : Str} {l : List Tr} {own : Own} {H : Hp} (hl : l.length ≤ 67108864) (fs : List FuncId) (w : Str) (hw : plainB w = true) (hlen : fs.length = w.length) (hen : ∀ f ∈ fs, enters Tryz.prog f)
    (hf : ∀ j (h1 : j < fs.length) (h2 : j < w.length), ∀ t ∈ l, SF Tryz.prog W0 fs[j] [t.av] H fun r H' => H' = H ∧ r = .bool (isB t (catB w[j]))) :
    SF Tryz.prog W0 144 [(Tr.node k n a b l).av, .sl 1 (fs.map fun f => [.fn f []]) own] H fun r H' => H' = H ∧ r = .bool (kidsB l w) := by
  have key := sf144 (W0 := W0) (k := k) (n := n) (a := a) (b := b) (l := l) (own := own) (H := H)
    (fs := (List.range fs.length).map fun j => ⟨fs.getD j 0, [], fun t => isB t (catB (w.getD j 0))⟩) hl
    (by intro F hF
        obtain ⟨j, hj, rfl⟩ := List.mem_map.1 hF
        simp only [List.mem_range] at hj
        simp only [List.getD_eq_getElem?_getD, List.getElem?_eq_getElem hj, Option.getD_some]
        exact hen _ (List.getElem_mem hj))
    (by intro F hF t ht
        obtain ⟨j, hj, rfl⟩ := List.mem_map.1 hF
        simp only [List.mem_range] at hj
        have h2 : j < w.length := by omega
        simp only [List.getD_eq_getElem?_getD, List.getElem?_eq_getElem hj, List.getElem?_eq_getElem h2, Option.getD_some]
        exact hf j hj h2 t ht)
  have e : forms ((List.range fs.length).map fun j => (⟨fs.getD j 0, [], fun t => isB t (catB (w.getD j 0))⟩ : Form)) = fs.map fun f => [.fn f []] := by
    apply List.ext_getElem
    · simp
    · intro i h1 h2
      simp only [List.length_map] at h2
      simp [forms, List.getElem?_eq_getElem h2]
  rw [e] at key
  refine key.mono ?_
  rintro r H' ⟨rfl, ok, rfl, hok⟩
  refine ⟨rfl, ?_⟩
  congr 1
  rw [Bool.eq_iff_iff, hok, kidsB_plain w l hw]
  simp only [List.length_map, List.length_range, hlen]
  constructor
  · rintro ⟨h1, h2⟩
    refine ⟨h1, fun j q1 q2 => ?_⟩
    have := h2 j q1 (by simpa using q2)
    simpa [List.getElem?_eq_getElem q2] using this
  · rintro ⟨h1, h2⟩
    refine ⟨h1, fun j q1 q2 => ?_⟩
    have q3 : j < w.length := by simpa using q2
    have := h2 j q1 q3
    simpa [List.getElem?_eq_getElem q3] using this
structure Shapes (W0 : World) (N : Nat) : Prop where
  ty : ∀ (t : Tr) (H : Hp), t.cnt ≤ N → t.good → SF Tryz.prog W0 177 [t.av] H fun r H' => H' = H ∧ r = .bool (isB t 1)
  ex : ∀ (t : Tr) (H : Hp), t.cnt ≤ N → t.good → SF Tryz.prog W0 178 [t.av] H fun r H' => H' = H ∧ r = .bool (isB t 2)
theorem beq0 (n m : Int) : (n == m) = decide (n = m) := by rw [Bool.eq_iff_iff]; simp
theorem mem_cnt : ∀ {l : List Tr} {t : Tr}, t ∈ l → t.cnt ≤ Tr.cnts l
  | x :: l, t, h => by
    simp only [Tr.cnts]
    rcases List.mem_cons.1 h with rfl | h
    · omega
    · have := mem_cnt h; omega
theorem sf177 (hB : LibOK W0) {N : Nat} (S : ∀ (t : Tr) (H : Hp), t.cnt ≤ N → t.good → SF Tryz.prog W0 177 [t.av] H fun r H' => H' = H ∧ r = .bool (isB t 1))
    (C : ∀ (k n : Int) (a b : Str) (l : List Tr) (H : Hp), Tr.cnts l ≤ N → Tr.goods l → SF Tryz.prog W0 179 [(Tr.node k n a b l).av] H fun r H' => H' = H ∧ r = .bool (kidsB l [67]))
    (t : Tr) (H : Hp) (hN : t.cnt ≤ N + 1) (hg : t.good) : SF Tryz.prog W0 177 [t.av] H fun r H' => H' = H ∧ r = .bool (isB t 1) := by
  obtain ⟨k, n, a, b, l, rfl⟩ := good_node hg
  have hkg := Tr.good_kids hg
  have hcl : Tr.cnts l ≤ N := by simp only [Tr.cnt] at hN; omega
  have ha := hg.1.1
  have h144a : SF Tryz.prog W0 144 [(Tr.node k n a b l).av, .slnil] H fun r H' => H' = H ∧ r = .bool (kidsB l []) :=
    SF.args (args' := [(Tr.node k n a b l).av, .sl 1 [] .shut]) (by simp) (sf144k (own := .shut) hkg.1 [] [] rfl rfl (by simp) (by intro j h1; simp at h1))
  have h144b : SF Tryz.prog W0 144 [(Tr.node k n a b l).av, .sl 1 [[.fn 177 []], [.fn 177 []]] .capped] H fun r H' => H' = H ∧ r = .bool (kidsB l [116, 116]) :=
    sf144k (own := .capped) hkg.1 [177, 177] [116, 116] rfl rfl (by simp [en177]) (fun j h1 h2 t ht => by
      have hj : j < 2 := h2
      match j, hj with
      | 0, _ => exact S t H (Nat.le_trans (mem_cnt ht) hcl) (hkg.2 t ht)
      | 1, _ => exact S t H (Nat.le_trans (mem_cnt ht) hcl) (hkg.2 t ht))
  have h179 := C k n a b l H hcl hkg
  have h102 := fun x y z => sf102 (W0 := W0) (H := H) (k := k) (n := n) (a := a) (b := b) (l := l) (x := x) (y := y) (z := z)
  simp only [Tr.av] at h144a h144b h179 h102 ⊢
  refine SF.pureLe (sf_start [2] 57 Tryz.func177 rfl rfl rfl (by decide) (by simp) ?_)
  repeat' first
    | refine aSq ?_ | refine aRt ?_ | refine aSk ?_ | refine aBl ?_ | refine tN ?_ | refine tR ?_ | refine iR ?_
    | (refine rg 5 ?_; refine tk 1 ?_; refine fc en102 ?_; refine SF.then (h102 _ _ _) ?_; (first | (refine te (fun hb => ?_) (fun hb => ?_) <;> (try simp at hb) <;> try (exfalso; omega)) | (refine tk 1 ?_)); all_goals (refine tk 1 ?_; (first | (refine fg en144 ?_; first | refine SF.then h144a ?_ | refine SF.then h144b ?_) | (refine tk 1 ?_)); refine tk 2 ?_; refine dn ?_))
    | (refine rg 7 ?_; refine tk 1 ?_; refine fc en102 ?_; refine SF.then (h102 _ _ _) ?_; (first | (refine te (fun hb => ?_) (fun hb => ?_) <;> (try simp at hb) <;> try (exfalso; omega)) | (refine tk 1 ?_)); all_goals (refine tk 4 ?_; (first | (refine fg en26 ?_; refine SF.then (sf26 hB ha) ?_) | (refine tk 1 ?_)); refine tk 1 ?_; (first | (refine te (fun hb => ?_) (fun hb => ?_) <;> (try simp at hb) <;> try (exfalso; omega)) | (refine tk 1 ?_)); all_goals (refine tk 1 ?_; (first | (refine fg en144 ?_; first | refine SF.then h144a ?_ | refine SF.then h144b ?_) | (refine tk 1 ?_)); refine tk 2 ?_; refine dn ?_)))
    | (refine rg 10 ?_; refine tk 1 ?_; refine fc en102 ?_; refine SF.then (h102 _ _ _) ?_; (first | (refine te (fun hb => ?_) (fun hb => ?_) <;> (try simp at hb) <;> try (exfalso; omega)) | (refine tk 1 ?_)); all_goals (refine tk 2 ?_; (first | (refine fg en144 ?_; first | refine SF.then h144a ?_ | refine SF.then h144b ?_) | (refine tk 1 ?_)); refine tk 2 ?_; refine dn ?_))
    | (refine rg 12 ?_; refine tk 1 ?_; refine fc en102 ?_; refine SF.then (h102 _ _ _) ?_; (first | (refine te (fun hb => ?_) (fun hb => ?_) <;> (try simp at hb) <;> try (exfalso; omega)) | (refine tk 1 ?_)); all_goals (refine tk 4 ?_; (first | (refine fg en43 ?_; refine SF.then (sf43 hB (by omega)) ?_) | (refine tk 1 ?_)); refine tk 1 ?_; (first | (refine te (fun hb => ?_) (fun hb => ?_) <;> (try simp at hb) <;> try (exfalso; omega)) | (refine tk 1 ?_)); all_goals (refine tk 1 ?_; (first | (refine fg en179 ?_; refine SF.then h179 ?_) | (refine tk 1 ?_)); refine tk 2 ?_; refine dn ?_)))
    | refine ru ?_
    | (refine awp_if rfl (fun hb => ?_) (fun hb => ?_) <;> (try simp at hb) <;> try (exfalso; omega))
    | fail
  all_goals (clear h144a h144b h179 h102 S C hg hkg hcl hN)
  all_goals first | (simp_all [retQ, bareT, is_1_1, is_1_2, is_1_3, is_1_4, is_1_5, is_1_6, is_1_7, is_1_else, beq0]; done) | (by_cases q1 : a = [] <;> by_cases q2 : b = [] <;> by_cases q3 : n = 0 <;> simp_all [retQ, bareT, is_1_1, is_1_2, is_1_3, is_1_4, is_1_5, is_1_6, is_1_7, is_1_else, beq0])
end Go.Av
namespace Go.Av
open Go.Proofs
variable {W0 : World}
set_option maxRecDepth 10000
set_option maxHeartbeats 4000000
def trues (ks : List Str) : List AV := ks.map fun _ => .bool true
theorem getA_trues (ks : List Str) (k : Str) : getA ks (trues ks) k = if ks.contains k then some (.bool true) else none := by
  induction ks with
  | nil => rfl
  | cons x ks ih =>
    simp only [trues, List.map_cons, getA, List.contains_cons] at *
    by_cases h : x = k
    · subst h; simp
    · have h2 : (k == x) = false := by simpa using fun e => h e.symm
      rw [if_neg h, h2, Bool.false_or]; exact ih
theorem setA_trues (ks : List Str) (k : Str) (h : ks.contains k = false) : setA ks (trues ks) k (.bool true) = (ks ++ [k], trues (ks ++ [k])) := by
  induction ks with
  | nil => rfl
  | cons x ks ih =>
    simp only [List.contains_cons, Bool.or_eq_false_iff] at h
    have h1 : x ≠ k := fun e => by subst e; simp at h
    simp only [trues, List.map_cons, setA, if_neg h1, List.cons_append] at *
    rw [ih h.2]
theorem sf179 (hB : LibOK W0) {N : Nat} (S : ∀ (t : Tr) (H : Hp), t.cnt ≤ N → t.good → SF Tryz.prog W0 177 [t.av] H fun r H' => H' = H ∧ r = .bool (isB t 1))
    (k n : Int) (a b : Str) (l : List Tr) (H : Hp) (hN : Tr.cnts l ≤ N) (hg : Tr.goods l) : SF Tryz.prog W0 179 [(Tr.node k n a b l).av] H fun r H' => H' = H ∧ r = .bool (kidsB l [67]) := by
  refine SF.pureLe (sf_start [2] 60 Tryz.func179 rfl rfl rfl (by decide) (by simp) ?_)
  rw [kidsB_C]
  have hlen := hg.1
  simp only [Tr.av]
  repeat' first
    | refine aSq ?_ | refine aBl ?_
    | refine ru ?_
    | fail
  refine awp_loop_inv (fun q st => ∃ i : Nat, q = l.length - i ∧ i ≤ l.length ∧ (l.take i).all (fun t => isB t 8) = true ∧ ((l.take i).map Tr.name).Nodup ∧
    Sub st ⟨60, [(12, .int .i64 i), (11, .int .i64 l.length), (10, .sl 1 (Tr.avs l) .shut), (3, .mref H.objs.length), (0, (Tr.node k n a b l).av)], ⟨H.objs ++ [.map ((l.take i).map Tr.name) (trues ((l.take i).map Tr.name))], H.hi⟩⟩) l.length
    ⟨0, by simp, by simp, by simp, by simp, ⟨rfl, by simp [trues], only_cons (by simp) (only_cons (by simp) (only_cons (by simp) (only_cons (by simp) (only_cons (by simp [Tr.av]) only_nil))))⟩⟩ ?_
  rintro q st ⟨i, rfl, hi, hh, hnd, hs2⟩
  refine awp_sub hs2 ?_
  clear hs2 st
  simp only [Tr.av]
  rcases Nat.lt_or_ge i l.length with hlt | hge
  · have hgi := hg.2 _ (List.getElem_mem hlt)
    have hci := Tr.cnts_le l i hlt
    have h5 := all_take_succ (fun t => isB t 8) l i hlt
    have hms := map_take_succ l i hlt
    have hnm : ∀ t ∈ l.take (i + 1), t ∈ l := fun t ht => List.mem_of_mem_take ht
    have hsub : distinctB (l.map Tr.name) = true → ((l.take (i + 1)).map Tr.name).Nodup := fun h => by
      rw [distinct_nodup] at h
      exact h.sublist ((List.take_sublist _ _).map _)
    obtain ⟨k1, n1, a1, b1, ks1, e1⟩ := good_node hgi
    have hl1 : (H.objs ++ [AObj.map ((l.take i).map Tr.name) (trues ((l.take i).map Tr.name))])[H.objs.length]? = some (AObj.map ((l.take i).map Tr.name) (trues ((l.take i).map Tr.name))) := by simp
    generalize hks : (l.take i).map Tr.name = ks at *
    have hga : (getA ks (trues ks) ((l[i]).name)).getD (.bool false) = .bool (ks.contains (l[i]).name) := by rw [getA_trues]; cases ks.contains (l[i]).name <;> rfl
    rw [e1] at h5 hms hgi hci hga
    simp only [Tr.name] at hga hms
    obtain ⟨cc, hcc⟩ : ∃ cc, ks.contains a1 = cc := ⟨_, rfl⟩
    rw [hcc] at hga
    have hF1 : isB (.node k1 n1 a1 b1 ks1) 8 = false → (decide (l ≠ []) && (l.all (fun t => isB t 8) && distinctB (l.map Tr.name))) = false := fun q => by
      rw [q, Bool.and_false] at h5
      rw [all_of_take _ l (i + 1) h5]; simp
    have hF2 : cc = true → (decide (l ≠ []) && (l.all (fun t => isB t 8) && distinctB (l.map Tr.name))) = false := fun q => by
      have : distinctB (l.map Tr.name) = false := by
        cases hd : distinctB (l.map Tr.name) with
        | false => rfl
        | true =>
          have h1 := hsub hd
          rw [hms, List.nodup_append] at h1
          rw [q] at hcc
          exact absurd rfl (h1.2.2 a1 (List.contains_iff_mem.1 hcc) a1 (by simp))
      rw [this]; simp
    have hg1 := Tr.good_kids hgi
    have ha1 := hgi.1.1
    have h102 := fun x y z H => sf102 (W0 := W0) (H := H) (k := k1) (n := n1) (a := a1) (b := b1) (l := ks1) (x := x) (y := y) (z := z)
    have h144 : ∀ H, SF Tryz.prog W0 144 [(Tr.node k1 n1 a1 b1 ks1).av, .sl 1 [[.fn 177 []]] .capped] H fun r H' => H' = H ∧ r = .bool (kidsB ks1 [116]) := fun H =>
      sf144k (own := .capped) hg1.1 [177] [116] rfl rfl (by simp [en177]) (fun j h1 h2 t ht => by
        have hj : j < 1 := h2
        match j, hj with
        | 0, _ => exact S t H (by have := mem_cnt ht; simp only [Tr.cnt] at hci; omega) (hg1.2 t ht))
    simp only [Tr.av] at h102 h144
    repeat' first
      | refine aSq ?_ | refine aRt ?_ | refine aSk ?_ | refine aBl ?_ | refine tN ?_ | refine tR ?_ | refine iR ?_
      | (refine rg 5 ?_; refine tk 5 ?_ (by simp (disch := omega) [e1, Tr.av, hga]; with_reducible rfl); (first | (refine te (hs := (by simp (disch := omega) [e1, Tr.av, hga]; with_reducible rfl)) (fun hb => ?_) (fun hb => ?_) <;> (try simp at hb) <;> try (exfalso; omega)) | (refine tk 1 ?_ (by simp (disch := omega) [e1, Tr.av, hga]; with_reducible rfl))); all_goals (refine tk 1 ?_ (by simp (disch := omega) [e1, Tr.av, hga]; with_reducible rfl); (first | (refine fg en102 ?_; refine SF.then (h102 _ _ _ _) ?_) | (refine tk 1 ?_ (by simp (disch := omega) [e1, Tr.av, hga]; with_reducible rfl))); refine tk 2 ?_ (by simp (disch := omega) [e1, Tr.av, hga]; with_reducible rfl); (first | (refine te (hs := (by simp (disch := omega) [e1, Tr.av, hga]; with_reducible rfl)) (fun hb => ?_) (fun hb => ?_) <;> (try simp at hb) <;> try (exfalso; omega)) | (refine tk 1 ?_ (by simp (disch := omega) [e1, Tr.av, hga]; with_reducible rfl))); all_goals (refine tk 4 ?_ (by simp (disch := omega) [e1, Tr.av, hga]; with_reducible rfl); (first | (refine fg en43 ?_; refine SF.then (sf43 hB (by omega)) ?_) | (refine tk 1 ?_ (by simp (disch := omega) [e1, Tr.av, hga]; with_reducible rfl))); refine tk 2 ?_ (by simp (disch := omega) [e1, Tr.av, hga]; with_reducible rfl); (first | (refine te (hs := (by simp (disch := omega) [e1, Tr.av, hga]; with_reducible rfl)) (fun hb => ?_) (fun hb => ?_) <;> (try simp at hb) <;> try (exfalso; omega)) | (refine tk 1 ?_ (by simp (disch := omega) [e1, Tr.av, hga]; with_reducible rfl))); all_goals (refine tk 7 ?_ (by simp (disch := omega) [e1, Tr.av, hga]; with_reducible rfl); (first | (refine te (hs := (by simp (disch := omega) [e1, Tr.av, hga]; with_reducible rfl)) (fun hb => ?_) (fun hb => ?_) <;> (try simp at hb) <;> try (exfalso; omega)) | (refine tk 1 ?_ (by simp (disch := omega) [e1, Tr.av, hga]; with_reducible rfl))); all_goals (refine tk 2 ?_ (by simp (disch := omega) [e1, Tr.av, hga]; with_reducible rfl); (first | (refine fg en144 ?_; refine SF.then (h144 _) ?_) | (refine tk 1 ?_ (by simp (disch := omega) [e1, Tr.av, hga]; with_reducible rfl))); refine tk 2 ?_ (by simp (disch := omega) [e1, Tr.av, hga]; with_reducible rfl); refine dn ?_)))))
      | ((have hccf : cc = false := by assumption); refine awp_run (mu := mu0) tab_ok (by simp [e1, Tr.av, setA_trues _ _ (hcc.trans hccf)]; rfl) ?_)
      | (refine ru ?_ (by simp (disch := omega) [e1, Tr.av, hga]; with_reducible rfl))
      | (refine awp_if rfl (fun hb => ?_) (fun hb => ?_) <;> (try simp at hb) <;> try (exfalso; omega))
      | fail
    · exact ⟨(Gr.refl H).obj _, .bool false, by simp, by rw [hF1 (is_8_else n1 a1 b1 ks1 (by assumption))]⟩
    · have hk8 : k1 = 8 := by assumption
      subst hk8
      have hbt : bareT n1 a1 b1 true false false = false := by assumption
      exact ⟨(Gr.refl H).obj _, .bool false, by simp, by rw [hF1 (by rw [is_8_8]; simp only [bareT, beq0] at hbt ⊢; by_cases q2 : b1 = [] <;> by_cases q3 : n1 = 0 <;> simp_all)]⟩
    · have hk8 : k1 = 8 := by assumption
      subst hk8
      have hca : checkB a1 = false := by assumption
      exact ⟨(Gr.refl H).obj _, .bool false, by simp, by rw [hF1 (by rw [is_8_8, hca]; simp)]⟩
    · exact ⟨(Gr.refl H).obj _, .bool false, by simp, by rw [hF2 (by assumption)]⟩
    · have hk8 : k1 = 8 := by assumption
      subst hk8
      have hkf : kidsB ks1 [116] = false := by assumption
      exact ⟨(Gr.refl H).obj _, .bool false, by simp, by rw [hF1 (by rw [is_8_8, hkf]; simp)]⟩
    · have hk8 : k1 = 8 := by assumption
      subst hk8
      have hbt : bareT n1 a1 b1 true false false = true := by assumption
      have hca : checkB a1 = true := by assumption
      have hkt : kidsB ks1 [116] = true := by assumption
      have q8 : isB (.node 8 n1 a1 b1 ks1) 8 = true := by
        rw [is_8_8, hca, hkt]; simp only [bareT, beq0] at hbt ⊢; by_cases q2 : b1 = [] <;> by_cases q3 : n1 = 0 <;> simp_all
      rw [hh, q8] at h5
      refine ⟨l.length - (i + 1), by omega, i + 1, rfl, by omega, h5, ?_, rfl, ?_, only_cons (by simp (disch := omega)) (only_cons (by simp) (only_cons (by simp) (only_cons (by simp) (only_cons (by simp [Tr.av]) only_nil))))⟩
      · rw [hms, List.nodup_append]
        refine ⟨hnd, by simp, fun x hx y hy hxy => ?_⟩
        simp only [List.mem_singleton] at hy
        subst hy; subst hxy
        have : ks.contains x = true := List.contains_iff_mem.2 hx
        rw [hcc] at this
        have hcf : cc = false := by assumption
        rw [hcf] at this; cases this
      · simp only [hms]
  · repeat' first
      | refine aSq ?_ | refine aRt ?_ | refine aEx ?_
      | refine ru ?_
      | (refine awp_if rfl (fun hb => ?_) (fun hb => ?_) <;> (try simp at hb) <;> try (exfalso; omega))
      | fail
    rw [List.take_of_length_le (by omega)] at hh hnd
    have e : decide (l ≠ []) = decide (0 < l.length) := by cases l <;> simp
    exact ⟨(Gr.refl H).obj _, .bool (decide (0 < l.length)), by simp, by rw [hh, e, (distinct_nodup _).2 hnd]; simp⟩
end Go.Av
namespace Go.Av
open Go.Proofs
variable {W0 : World}
set_option maxRecDepth 10000
set_option maxHeartbeats 4000000
def FormOK (W0 : World) (f : FuncId) (c : Int) (N : Nat) : Prop := ∀ (t : Tr) (H : Hp), t.cnt ≤ N → t.good → SF Tryz.prog W0 f [t.av] H fun r H' => H' = H ∧ r = .bool (isB t c)
theorem k144 {N : Nat} {k n : Int} {a b : Str} {l : List Tr} {own : Own} (hcl : Tr.cnts l ≤ N) (hg : Tr.goods l) (fs : List FuncId) (w : Str) (hw : plainB w = true) (hlen : fs.length = w.length) (hen : ∀ f ∈ fs, enters Tryz.prog f)
    (hf : ∀ j (h1 : j < fs.length) (h2 : j < w.length), FormOK W0 fs[j] (catB w[j]) N) (H : Hp) :
    SF Tryz.prog W0 144 [(Tr.node k n a b l).av, .sl 1 (fs.map fun f => [.fn f []]) own] H fun r H' => H' = H ∧ r = .bool (kidsB l w) :=
  sf144k hg.1 fs w hw hlen hen fun j h1 h2 t ht => hf j h1 h2 t H (Nat.le_trans (mem_cnt ht) hcl) (hg.2 t ht)
theorem k144n {k n : Int} {a b : Str} {l : List Tr} (hg : Tr.goods l) (H : Hp) : SF Tryz.prog W0 144 [(Tr.node k n a b l).av, .slnil] H fun r H' => H' = H ∧ r = .bool (kidsB l []) :=
  SF.args (args' := [(Tr.node k n a b l).av, .sl 1 [] .shut]) (by simp) (sf144k (own := .shut) hg.1 [] [] rfl rfl (by simp) (by intro j h1; simp at h1))
theorem k144_1 {N : Nat} {k n : Int} {a b : Str} {l : List Tr} (f : FuncId) (c : UInt8) (hw : plainB [c] = true) (hen : enters Tryz.prog f) (hf : FormOK W0 f (catB c) N) (hcl : Tr.cnts l ≤ N) (hg : Tr.goods l) (H : Hp) :
    SF Tryz.prog W0 144 [(Tr.node k n a b l).av, .sl 1 [[.fn f []]] .capped] H fun r H' => H' = H ∧ r = .bool (kidsB l [c]) :=
  k144 (own := .capped) hcl hg [f] [c] hw rfl (by simpa using hen) (fun j h1 h2 => by
    have hj : j < 1 := h2
    match j, hj with
    | 0, _ => exact hf) H
theorem k144_2 {N : Nat} {k n : Int} {a b : Str} {l : List Tr} (f g : FuncId) (c d : UInt8) (hw : plainB [c, d] = true) (hen : enters Tryz.prog f) (hen2 : enters Tryz.prog g) (hf : FormOK W0 f (catB c) N) (hf2 : FormOK W0 g (catB d) N) (hcl : Tr.cnts l ≤ N) (hg : Tr.goods l) (H : Hp) :
    SF Tryz.prog W0 144 [(Tr.node k n a b l).av, .sl 1 [[.fn f []], [.fn g []]] .capped] H fun r H' => H' = H ∧ r = .bool (kidsB l [c, d]) :=
  k144 (own := .capped) hcl hg [f, g] [c, d] hw rfl (by simp; exact ⟨hen, hen2⟩) (fun j h1 h2 => by
    have hj : j < 2 := h2
    match j, hj with
    | 0, _ => exact hf
    | 1, _ => exact hf2) H
theorem sf200 {N : Nat} (S2 : FormOK W0 178 2 N) {k n : Int} {a b : Str} {l : List Tr} {m : Int} {H : Hp} (hcl : Tr.cnts l ≤ N) (hg : Tr.goods l) :
    SF Tryz.prog W0 200 [(Tr.node k n a b l).av, .int .i64 m] H fun r H' => H' = H ∧ r = .bool (bareT n a b false false false && (decide ((l.length : Int) = m) && l.all fun t => isB t 2)) := by
  refine SF.pureLe (sf_start [4] 20 Tryz.func200 rfl rfl rfl (by decide) (by simp) ?_)
  have hlen := hg.1
  have h102 := fun x y z H => sf102 (W0 := W0) (H := H) (k := k) (n := n) (a := a) (b := b) (l := l) (x := x) (y := y) (z := z)
  have h103 := sf103 (W0 := W0) (k := k) (n := n) (a := a) (b := b) (l := l) (m := 0) (H := H) (f := 178) (caps := []) (p := fun t => isB t 2) hlen (by omega) en178 (fun t ht => S2 t H (Nat.le_trans (mem_cnt ht) hcl) (hg.2 t ht))
  simp only [Tr.av, List.drop_zero] at h102 h103 ⊢
  repeat' first
    | refine aSq ?_ | refine aRt ?_
    | (refine rg 1 ?_; refine tk 1 ?_; refine fc en102 ?_; refine SF.then (h102 _ _ _ _) ?_; (first | (refine te (fun hb => ?_) (fun hb => ?_) <;> (try simp at hb) <;> try (exfalso; omega)) | (refine tk 1 ?_)); all_goals (refine tk 8 ?_; (first | (refine te (fun hb => ?_) (fun hb => ?_) <;> (try simp at hb) <;> try (exfalso; omega)) | (refine tk 1 ?_)); all_goals (refine tk 1 ?_; (first | (refine fg en103 ?_; refine SF.then h103 ?_) | (refine tk 1 ?_)); refine tk 2 ?_; refine dn ?_)))
    | refine ru ?_
    | fail
  all_goals (clear h102 h103 hg S2 hcl)
  all_goals (simp_all [retQ])
theorem sf214 (hB : LibOK W0) {N : Nat} (S2 : FormOK W0 178 2 N) (t : Tr) (H : Hp) (hN : t.cnt ≤ N + 1) (hg : t.good) : SF Tryz.prog W0 214 [t.av] H fun r H' => H' = H ∧ r = .bool (isB t 9) := by
  obtain ⟨k, n, a, b, l, rfl⟩ := good_node hg
  have hkg := Tr.good_kids hg
  have hcl : Tr.cnts l ≤ N := by simp only [Tr.cnt] at hN; omega
  have ha := hg.1.1
  have hb0 := hg.1.2.1
  have h102 := fun x y z H => sf102 (W0 := W0) (H := H) (k := k) (n := n) (a := a) (b := b) (l := l) (x := x) (y := y) (z := z)
  have h144 := k144_1 (k := k) (n := n) (a := a) (b := b) 178 101 rfl en178 S2 hcl hkg
  simp only [Tr.av] at h102 h144 ⊢
  refine SF.pureLe (sf_start [2] 31 Tryz.func214 rfl rfl rfl (by decide) (by simp) ?_)
  repeat' first
    | refine aSq ?_ | refine aRt ?_
    | (refine rg 1 ?_; refine tk 5 ?_; (first | (refine te (fun hb => ?_) (fun hb => ?_) <;> (try simp at hb) <;> try (exfalso; omega)) | (refine tk 1 ?_)); all_goals (refine tk 1 ?_; (first | (refine fg en102 ?_; refine SF.then (h102 _ _ _ _) ?_) | (refine tk 1 ?_)); refine tk 1 ?_; (first | (refine te (fun hb => ?_) (fun hb => ?_) <;> (try simp at hb) <;> try (exfalso; omega)) | (refine tk 1 ?_)); all_goals (refine tk 4 ?_; (first | (refine fg en43 ?_; refine SF.then (sf43 hB (by omega)) ?_) | (refine tk 1 ?_)); refine tk 1 ?_; (first | (refine te (fun hb => ?_) (fun hb => ?_) <;> (try simp at hb) <;> try (exfalso; omega)) | (refine tk 1 ?_)); all_goals (refine tk 4 ?_; (first | (refine fg en43 ?_; refine SF.then (sf43 hB (by omega)) ?_) | (refine tk 1 ?_)); refine tk 1 ?_; (first | (refine te (fun hb => ?_) (fun hb => ?_) <;> (try simp at hb) <;> try (exfalso; omega)) | (refine tk 1 ?_)); all_goals (refine tk 2 ?_; (first | (refine fg en144 ?_; refine SF.then (h144 _) ?_) | (refine tk 1 ?_)); refine tk 2 ?_; refine dn ?_)))))
    | refine ru ?_
    | fail
  all_goals (clear h102 h144 S2 hg hkg hcl hN)
  all_goals first | (simp_all [retQ, bareT, is_9_34, is_9_else, beq0]; done) | (by_cases q3 : n = 0 <;> simp_all [retQ, bareT, is_9_34, is_9_else, beq0])
theorem sf201 (hB : LibOK W0) {N : Nat} (S2 : FormOK W0 178 2 N) {k n : Int} {a b : Str} {l : List Tr} {m : Nat} {H : Hp} (hcl : Tr.cnts l ≤ N + 1) (hg : Tr.goods l) :
    SF Tryz.prog W0 201 [(Tr.node k n a b l).av, .int .i64 m] H fun r H' => H' = H ∧ r = .bool (decide (m < l.length) && (l.drop m).all fun t => isB t 9) := by
  refine SF.pureLe (sf_start [4] 19 Tryz.func201 rfl rfl rfl (by decide) (by simp) ?_)
  have hlen := hg.1
  have h103 := fun hm : m ≤ l.length => sf103 (W0 := W0) (k := k) (n := n) (a := a) (b := b) (l := l) (m := m) (H := H) (f := 214) (caps := []) (p := fun t => isB t 9) hlen hm en214 (fun t ht => sf214 hB S2 t H (Nat.le_trans (mem_cnt ht) hcl) (hg.2 t ht))
  simp only [Tr.av] at h103 ⊢
  repeat' first
    | refine aSq ?_ | refine aRt ?_
    | (refine rg 2 ?_; refine tk 7 ?_; (first | (refine te (fun hb => ?_) (fun hb => ?_) <;> (try simp at hb) <;> try (exfalso; omega)) | (refine tk 1 ?_)); all_goals (refine tk 3 ?_; (first | (refine fg en103 ?_; refine SF.then (h103 (by omega)) ?_) | (refine tk 1 ?_)); refine tk 2 ?_; refine dn ?_))
    | refine ru ?_
    | fail
  all_goals (clear h103 hg S2 hcl)
  all_goals first | (simp_all [retQ]; done) | (have q : ¬ m < l.length := by omega
                                               exact ⟨Gr.refl _, .bool false, by simp, by rw [decide_eq_false q, Bool.false_and]⟩)
end Go.Av
namespace Go.Av
open Go.Proofs
variable {W0 : World}
set_option maxRecDepth 10000
set_option maxHeartbeats 4000000
theorem kidsB_es (m : Nat) (l : List Tr) : kidsB l (List.replicate m 101) = (decide ((l.length : Int) = (m : Int)) && l.all fun t => isB t 2) := by
  rw [Bool.eq_iff_iff, kidsB_plain _ _ (by simp [plainB])]
  simp only [List.length_replicate, Bool.and_eq_true, decide_eq_true_eq, List.all_eq_true]
  constructor
  · rintro ⟨h1, h2⟩
    refine ⟨by omega, fun t ht => ?_⟩
    obtain ⟨i, hi, rfl⟩ := List.getElem_of_mem ht
    simpa [catB] using h2 i hi (by omega)
  · rintro ⟨h1, h2⟩
    exact ⟨by omega, fun j q1 q2 => by simpa [catB] using h2 _ (List.getElem_mem q1)⟩
theorem kidsB_eA (t : Tr) (l : List Tr) : kidsB (t :: l) [101, 65] = (isB t 2 && (decide (l ≠ []) && l.all fun t => isB t 9)) := by
  rw [show kidsB (t :: l) [101, 65] = (isB t 2 && kidsB l [65]) from by simp [kidsB, catB], kidsB_A]
theorem kidsB_etA (t u : Tr) (l : List Tr) : kidsB (t :: u :: l) [101, 116, 65] = (isB t 2 && (isB u 1 && (decide (l ≠ []) && l.all fun t => isB t 9))) := by
  rw [show kidsB (t :: u :: l) [101, 116, 65] = (isB t 2 && (isB u 1 && kidsB l [65])) from by simp [kidsB, catB], kidsB_A]
theorem kidsB_e0 : kidsB [] [101, 65] = false := by simp [kidsB]
theorem kidsB_et0 : kidsB [] [101, 116, 65] = false := by simp [kidsB]
theorem kidsB_et1 (t : Tr) : kidsB [t] [101, 116, 65] = false := by simp [kidsB]
theorem ex_20 (hB : LibOK W0) {N : Nat} (S1 : FormOK W0 177 1 N) (S2 : FormOK W0 178 2 N) {n : Int} {a b : Str} {l : List Tr} (H : Hp) (hcl : Tr.cnts l ≤ N) (hg : (Tr.node 20 n a b l).good) : SF Tryz.prog W0 178 [(Tr.node 20 n a b l).av] H fun r H' => H' = H ∧ r = .bool (isB (.node 20 n a b l) 2) := by
  have hkg := Tr.good_kids hg
  have ha := hg.1.1
  have h102 := fun x y z H => sf102 (W0 := W0) (H := H) (k := 20) (n := n) (a := a) (b := b) (l := l) (x := x) (y := y) (z := z)
  have h144 := k144n (W0 := W0) (k := 20) (n := n) (a := a) (b := b) hkg
  simp only [Tr.av] at h102 h144 ⊢
  refine SF.pureLe (sf_start [2] 182 Tryz.func178 rfl rfl rfl (by decide) (by simp) ?_)
  repeat' first
    | refine aSq ?_ | refine aRt ?_ | refine aBl ?_ | refine tN ?_ | refine tR ?_ | refine iR ?_
    | (refine rg 3 ?_; refine tk 1 ?_; refine fc en102 ?_; refine SF.then (h102 _ _ _ _) ?_; (first | (refine te (fun hb => ?_) (fun hb => ?_) <;> (try simp at hb) <;> try (exfalso; omega)) | (refine tk 1 ?_)); all_goals (refine tk 6 ?_; (first | (refine te (fun hb => ?_) (fun hb => ?_) <;> (try simp at hb) <;> try (exfalso; omega)) | (refine tk 1 ?_)); all_goals (refine tk 6 ?_; (first | (refine te (fun hb => ?_) (fun hb => ?_) <;> (try simp at hb) <;> try (exfalso; omega)) | (refine tk 1 ?_)); all_goals (refine tk 1 ?_; (first | (refine fg en144 ?_; refine SF.then (h144 _) ?_) | (refine tk 1 ?_)); refine tk 2 ?_; refine dn ?_))))
    | refine ru ?_
    | (refine awp_if rfl (fun hb => ?_) (fun hb => ?_) <;> (try simp at hb) <;> try (exfalso; omega))
    | fail
  all_goals (clear h102 h144 S1 S2 hg hkg hcl)
  all_goals first | (simp_all [retQ, bareT, is_2_20, beq0]; done) | (by_cases q1 : a = [] <;> by_cases q2 : b = [] <;> by_cases r1 : -1073741824 ≤ n <;> by_cases r2 : n ≤ 1073741824 <;> first | (exfalso; omega) | (simp_all [retQ, bareT, is_2_20, beq0]; done) | (exact ⟨Gr.refl _, .bool false, by simp, by rw [is_2_20]; simp [r1, r2]⟩))
theorem ex_21 (hB : LibOK W0) {N : Nat} (S1 : FormOK W0 177 1 N) (S2 : FormOK W0 178 2 N) {n : Int} {a b : Str} {l : List Tr} (H : Hp) (hcl : Tr.cnts l ≤ N) (hg : (Tr.node 21 n a b l).good) : SF Tryz.prog W0 178 [(Tr.node 21 n a b l).av] H fun r H' => H' = H ∧ r = .bool (isB (.node 21 n a b l) 2) := by
  have hkg := Tr.good_kids hg
  have ha := hg.1.1
  have h102 := fun x y z H => sf102 (W0 := W0) (H := H) (k := 21) (n := n) (a := a) (b := b) (l := l) (x := x) (y := y) (z := z)
  have h144 := k144n (W0 := W0) (k := 21) (n := n) (a := a) (b := b) hkg
  simp only [Tr.av] at h102 h144 ⊢
  refine SF.pureLe (sf_start [2] 182 Tryz.func178 rfl rfl rfl (by decide) (by simp) ?_)
  repeat' first
    | refine aSq ?_ | refine aRt ?_ | refine aBl ?_ | refine tN ?_ | refine tR ?_ | refine iR ?_
    | (refine rg 5 ?_; refine tk 1 ?_; refine fc en102 ?_; refine SF.then (h102 _ _ _ _) ?_; (first | (refine te (fun hb => ?_) (fun hb => ?_) <;> (try simp at hb) <;> try (exfalso; omega)) | (refine tk 1 ?_)); all_goals (refine tk 5 ?_; (first | (refine te (fun hb => ?_) (fun hb => ?_) <;> (try simp at hb) <;> try (exfalso; omega)) | (refine tk 1 ?_)); all_goals (refine tk 7 ?_; (first | (refine te (fun hb => ?_) (fun hb => ?_) <;> (try simp at hb) <;> try (exfalso; omega)) | (refine tk 1 ?_)); all_goals (refine tk 1 ?_; (first | (refine fg en144 ?_; refine SF.then (h144 _) ?_) | (refine tk 1 ?_)); refine tk 2 ?_; refine dn ?_))))
    | refine ru ?_
    | (refine awp_if rfl (fun hb => ?_) (fun hb => ?_) <;> (try simp at hb) <;> try (exfalso; omega))
    | fail
  all_goals (clear h102 h144 S1 S2 hg hkg hcl)
  all_goals first | (simp_all [retQ, bareT, is_2_21, beq0]; done) | (by_cases q1 : a = [] <;> by_cases q2 : b = [] <;> by_cases r1 : 0 ≤ n <;> by_cases r2 : n ≤ 1 <;> first | (exfalso; omega) | (simp_all [retQ, bareT, is_2_21, beq0]; done) | (exact ⟨Gr.refl _, .bool false, by simp, by rw [is_2_21]; simp [r1, r2]⟩))
theorem ex_22 (hB : LibOK W0) {N : Nat} (S1 : FormOK W0 177 1 N) (S2 : FormOK W0 178 2 N) {n : Int} {a b : Str} {l : List Tr} (H : Hp) (hcl : Tr.cnts l ≤ N) (hg : (Tr.node 22 n a b l).good) : SF Tryz.prog W0 178 [(Tr.node 22 n a b l).av] H fun r H' => H' = H ∧ r = .bool (isB (.node 22 n a b l) 2) := by
  have hkg := Tr.good_kids hg
  have ha := hg.1.1
  have h102 := fun x y z H => sf102 (W0 := W0) (H := H) (k := 22) (n := n) (a := a) (b := b) (l := l) (x := x) (y := y) (z := z)
  have h200 := sf200 (W0 := W0) S2 (k := 22) (n := n) (a := a) (b := b) (l := l) (m := 0) (H := H) hcl hkg
  simp only [Tr.av] at h102 h200 ⊢
  refine SF.pureLe (sf_start [2] 182 Tryz.func178 rfl rfl rfl (by decide) (by simp) ?_)
  repeat' first
    | refine aSq ?_ | refine aRt ?_ | refine aBl ?_ | refine tN ?_ | refine tR ?_ | refine iR ?_
    | (refine rg 7 ?_; refine tk 1 ?_; refine fc en200 ?_; refine SF.then h200 ?_; refine tk 1 ?_; refine dn ?_)
    | refine ru ?_
    | (refine awp_if rfl (fun hb => ?_) (fun hb => ?_) <;> (try simp at hb) <;> try (exfalso; omega))
    | fail
  all_goals (clear h102 h200 S1 S2 hg hkg hcl)
  all_goals have hes : kidsB l [] = (decide ((l.length : Int) = 0) && l.all fun t => isB t 2) := kidsB_es 0 l
  all_goals first | (simp_all [retQ, bareT, is_2_22, beq0, hes]; done) | (by_cases q1 : a = [] <;> by_cases q2 : b = [] <;> by_cases q3 : n = 0 <;> simp_all [retQ, bareT, is_2_22, beq0, hes])
theorem ex_23 (hB : LibOK W0) {N : Nat} (S1 : FormOK W0 177 1 N) (S2 : FormOK W0 178 2 N) {n : Int} {a b : Str} {l : List Tr} (H : Hp) (hcl : Tr.cnts l ≤ N) (hg : (Tr.node 23 n a b l).good) : SF Tryz.prog W0 178 [(Tr.node 23 n a b l).av] H fun r H' => H' = H ∧ r = .bool (isB (.node 23 n a b l) 2) := by
  have hkg := Tr.good_kids hg
  have ha := hg.1.1
  have h102 := fun x y z H => sf102 (W0 := W0) (H := H) (k := 23) (n := n) (a := a) (b := b) (l := l) (x := x) (y := y) (z := z)
  have h144 := k144n (W0 := W0) (k := 23) (n := n) (a := a) (b := b) hkg
  simp only [Tr.av] at h102 h144 ⊢
  refine SF.pureLe (sf_start [2] 182 Tryz.func178 rfl rfl rfl (by decide) (by simp) ?_)
  repeat' first
    | refine aSq ?_ | refine aRt ?_ | refine aBl ?_ | refine tN ?_ | refine tR ?_ | refine iR ?_
    | (refine rg 9 ?_; refine tk 1 ?_; refine fc en102 ?_; refine SF.then (h102 _ _ _ _) ?_; (first | (refine te (fun hb => ?_) (fun hb => ?_) <;> (try simp at hb) <;> try (exfalso; omega)) | (refine tk 1 ?_)); all_goals (refine tk 4 ?_; (first | (refine fg en26 ?_; refine SF.then (sf26 hB ha) ?_) | (refine tk 1 ?_)); refine tk 1 ?_; (first | (refine te (fun hb => ?_) (fun hb => ?_) <;> (try simp at hb) <;> try (exfalso; omega)) | (refine tk 1 ?_)); all_goals (refine tk 1 ?_; (first | (refine fg en144 ?_; refine SF.then (h144 _) ?_) | (refine tk 1 ?_)); refine tk 2 ?_; refine dn ?_)))
    | refine ru ?_
    | (refine awp_if rfl (fun hb => ?_) (fun hb => ?_) <;> (try simp at hb) <;> try (exfalso; omega))
    | fail
  all_goals (clear h102 h144 S1 S2 hg hkg hcl)
  all_goals first | (simp_all [retQ, bareT, is_2_23, beq0]; done) | (by_cases q1 : a = [] <;> by_cases q2 : b = [] <;> by_cases q3 : n = 0 <;> simp_all [retQ, bareT, is_2_23, beq0])
theorem ex_24 (hB : LibOK W0) {N : Nat} (S1 : FormOK W0 177 1 N) (S2 : FormOK W0 178 2 N) {n : Int} {a b : Str} {l : List Tr} (H : Hp) (hcl : Tr.cnts l ≤ N) (hg : (Tr.node 24 n a b l).good) : SF Tryz.prog W0 178 [(Tr.node 24 n a b l).av] H fun r H' => H' = H ∧ r = .bool (isB (.node 24 n a b l) 2) := by
  have hkg := Tr.good_kids hg
  have ha := hg.1.1
  have h102 := fun x y z H => sf102 (W0 := W0) (H := H) (k := 24) (n := n) (a := a) (b := b) (l := l) (x := x) (y := y) (z := z)
  have h144 := k144_2 (k := 24) (n := n) (a := a) (b := b) 177 178 116 101 rfl en177 en178 S1 S2 hcl hkg
  simp only [Tr.av] at h102 h144 ⊢
  refine SF.pureLe (sf_start [2] 182 Tryz.func178 rfl rfl rfl (by decide) (by simp) ?_)
  repeat' first
    | refine aSq ?_ | refine aRt ?_ | refine aBl ?_ | refine tN ?_ | refine tR ?_ | refine iR ?_
    | (refine rg 11 ?_; refine tk 1 ?_; refine fc en102 ?_; refine SF.then (h102 _ _ _ _) ?_; (first | (refine te (fun hb => ?_) (fun hb => ?_) <;> (try simp at hb) <;> try (exfalso; omega)) | (refine tk 1 ?_)); all_goals (refine tk 4 ?_; (first | (refine fg en43 ?_; refine SF.then (sf43 hB (by omega)) ?_) | (refine tk 1 ?_)); refine tk 1 ?_; (first | (refine te (fun hb => ?_) (fun hb => ?_) <;> (try simp at hb) <;> try (exfalso; omega)) | (refine tk 1 ?_)); all_goals (refine tk 2 ?_; (first | (refine fg en144 ?_; refine SF.then (h144 _) ?_) | (refine tk 1 ?_)); refine tk 2 ?_; refine dn ?_)))
    | refine ru ?_
    | (refine awp_if rfl (fun hb => ?_) (fun hb => ?_) <;> (try simp at hb) <;> try (exfalso; omega))
    | fail
  all_goals (clear h102 h144 S1 S2 hg hkg hcl)
  all_goals first | (simp_all [retQ, bareT, is_2_24, beq0]; done) | (by_cases q1 : a = [] <;> by_cases q2 : b = [] <;> by_cases q3 : n = 0 <;> simp_all [retQ, bareT, is_2_24, beq0])
theorem ex_25 (hB : LibOK W0) {N : Nat} (S1 : FormOK W0 177 1 N) (S2 : FormOK W0 178 2 N) {n : Int} {a b : Str} {l : List Tr} (H : Hp) (hcl : Tr.cnts l ≤ N) (hg : (Tr.node 25 n a b l).good) : SF Tryz.prog W0 178 [(Tr.node 25 n a b l).av] H fun r H' => H' = H ∧ r = .bool (isB (.node 25 n a b l) 2) := by
  have hkg := Tr.good_kids hg
  have ha := hg.1.1
  have h102 := fun x y z H => sf102 (W0 := W0) (H := H) (k := 25) (n := n) (a := a) (b := b) (l := l) (x := x) (y := y) (z := z)
  have h200 := sf200 (W0 := W0) S2 (k := 25) (n := n) (a := a) (b := b) (l := l) (m := 2) (H := H) hcl hkg
  simp only [Tr.av] at h102 h200 ⊢
  refine SF.pureLe (sf_start [2] 182 Tryz.func178 rfl rfl rfl (by decide) (by simp) ?_)
  repeat' first
    | refine aSq ?_ | refine aRt ?_ | refine aSk ?_ | refine aBl ?_ | refine tN ?_ | refine tR ?_ | refine iR ?_
    | (refine rg 14 ?_; refine tk 1 ?_; refine fc en200 ?_; refine SF.then h200 ?_; refine tk 1 ?_; refine dn ?_)
    | refine ru ?_
    | (refine awp_if rfl (fun hb => ?_) (fun hb => ?_) <;> (try simp at hb) <;> try (exfalso; omega))
    | fail
  all_goals (clear h102 h200 S1 S2 hg hkg hcl)
  all_goals have hes : kidsB l [101, 101] = (decide ((l.length : Int) = 2) && l.all fun t => isB t 2) := kidsB_es 2 l
  all_goals first | (simp_all [retQ, bareT, is_2_25, beq0, hes]; done) | (by_cases q1 : a = [] <;> by_cases q2 : b = [] <;> by_cases q3 : n = 0 <;> simp_all [retQ, bareT, is_2_25, beq0, hes])
theorem ex_26 (hB : LibOK W0) {N : Nat} (S1 : FormOK W0 177 1 N) (S2 : FormOK W0 178 2 N) {n : Int} {a b : Str} {l : List Tr} (H : Hp) (hcl : Tr.cnts l ≤ N) (hg : (Tr.node 26 n a b l).good) : SF Tryz.prog W0 178 [(Tr.node 26 n a b l).av] H fun r H' => H' = H ∧ r = .bool (isB (.node 26 n a b l) 2) := by
  have hkg := Tr.good_kids hg
  have ha := hg.1.1
  have h102 := fun x y z H => sf102 (W0 := W0) (H := H) (k := 26) (n := n) (a := a) (b := b) (l := l) (x := x) (y := y) (z := z)
  have h200 := sf200 (W0 := W0) S2 (k := 26) (n := n) (a := a) (b := b) (l := l) (m := 2) (H := H) hcl hkg
  simp only [Tr.av] at h102 h200 ⊢
  refine SF.pureLe (sf_start [2] 182 Tryz.func178 rfl rfl rfl (by decide) (by simp) ?_)
  repeat' first
    | refine aSq ?_ | refine aRt ?_ | refine aBl ?_ | refine tN ?_ | refine tR ?_ | refine iR ?_
    | (refine rg 14 ?_; refine tk 1 ?_; refine fc en200 ?_; refine SF.then h200 ?_; refine tk 1 ?_; refine dn ?_)
    | refine ru ?_
    | (refine awp_if rfl (fun hb => ?_) (fun hb => ?_) <;> (try simp at hb) <;> try (exfalso; omega))
    | fail
  all_goals (clear h102 h200 S1 S2 hg hkg hcl)
  all_goals have hes : kidsB l [101, 101] = (decide ((l.length : Int) = 2) && l.all fun t => isB t 2) := kidsB_es 2 l
  all_goals first | (simp_all [retQ, bareT, is_2_26, beq0, hes]; done) | (by_cases q1 : a = [] <;> by_cases q2 : b = [] <;> by_cases q3 : n = 0 <;> simp_all [retQ, bareT, is_2_26, beq0, hes])
theorem ex_27 (hB : LibOK W0) {N : Nat} (S1 : FormOK W0 177 1 N) (S2 : FormOK W0 178 2 N) {n : Int} {a b : Str} {l : List Tr} (H : Hp) (hcl : Tr.cnts l ≤ N) (hg : (Tr.node 27 n a b l).good) : SF Tryz.prog W0 178 [(Tr.node 27 n a b l).av] H fun r H' => H' = H ∧ r = .bool (isB (.node 27 n a b l) 2) := by
  have hkg := Tr.good_kids hg
  have ha := hg.1.1
  have h102 := fun x y z H => sf102 (W0 := W0) (H := H) (k := 27) (n := n) (a := a) (b := b) (l := l) (x := x) (y := y) (z := z)
  have h200 := sf200 (W0 := W0) S2 (k := 27) (n := n) (a := a) (b := b) (l := l) (m := 1) (H := H) hcl hkg
  simp only [Tr.av] at h102 h200 ⊢
  refine SF.pureLe (sf_start [2] 182 Tryz.func178 rfl rfl rfl (by decide) (by simp) ?_)
  repeat' first
    | refine aSq ?_ | refine aRt ?_ | refine aSk ?_ | refine aBl ?_ | refine tN ?_ | refine tR ?_ | refine iR ?_
    | (refine rg 17 ?_; refine tk 1 ?_; refine fc en200 ?_; refine SF.then h200 ?_; refine tk 1 ?_; refine dn ?_)
    | refine ru ?_
    | (refine awp_if rfl (fun hb => ?_) (fun hb => ?_) <;> (try simp at hb) <;> try (exfalso; omega))
    | fail
  all_goals (clear h102 h200 S1 S2 hg hkg hcl)
  all_goals have hes : kidsB l [101] = (decide ((l.length : Int) = 1) && l.all fun t => isB t 2) := kidsB_es 1 l
  all_goals first | (simp_all [retQ, bareT, is_2_27, beq0, hes]; done) | (by_cases q1 : a = [] <;> by_cases q2 : b = [] <;> by_cases q3 : n = 0 <;> simp_all [retQ, bareT, is_2_27, beq0, hes])
theorem ex_28 (hB : LibOK W0) {N : Nat} (S1 : FormOK W0 177 1 N) (S2 : FormOK W0 178 2 N) {n : Int} {a b : Str} {l : List Tr} (H : Hp) (hcl : Tr.cnts l ≤ N) (hg : (Tr.node 28 n a b l).good) : SF Tryz.prog W0 178 [(Tr.node 28 n a b l).av] H fun r H' => H' = H ∧ r = .bool (isB (.node 28 n a b l) 2) := by
  have hkg := Tr.good_kids hg
  have ha := hg.1.1
  have h102 := fun x y z H => sf102 (W0 := W0) (H := H) (k := 28) (n := n) (a := a) (b := b) (l := l) (x := x) (y := y) (z := z)
  have h200 := sf200 (W0 := W0) S2 (k := 28) (n := n) (a := a) (b := b) (l := l) (m := 1) (H := H) hcl hkg
  simp only [Tr.av] at h102 h200 ⊢
  refine SF.pureLe (sf_start [2] 182 Tryz.func178 rfl rfl rfl (by decide) (by simp) ?_)
  repeat' first
    | refine aSq ?_ | refine aRt ?_ | refine aBl ?_ | refine tN ?_ | refine tR ?_ | refine iR ?_
    | (refine rg 17 ?_; refine tk 1 ?_; refine fc en200 ?_; refine SF.then h200 ?_; refine tk 1 ?_; refine dn ?_)
    | refine ru ?_
    | (refine awp_if rfl (fun hb => ?_) (fun hb => ?_) <;> (try simp at hb) <;> try (exfalso; omega))
    | fail
  all_goals (clear h102 h200 S1 S2 hg hkg hcl)
  all_goals have hes : kidsB l [101] = (decide ((l.length : Int) = 1) && l.all fun t => isB t 2) := kidsB_es 1 l
  all_goals first | (simp_all [retQ, bareT, is_2_28, beq0, hes]; done) | (by_cases q1 : a = [] <;> by_cases q2 : b = [] <;> by_cases q3 : n = 0 <;> simp_all [retQ, bareT, is_2_28, beq0, hes])
theorem ex_29 (hB : LibOK W0) {N : Nat} (S1 : FormOK W0 177 1 N) (S2 : FormOK W0 178 2 N) {n : Int} {a b : Str} {l : List Tr} (H : Hp) (hcl : Tr.cnts l ≤ N) (hg : (Tr.node 29 n a b l).good) : SF Tryz.prog W0 178 [(Tr.node 29 n a b l).av] H fun r H' => H' = H ∧ r = .bool (isB (.node 29 n a b l) 2) := by
  have hkg := Tr.good_kids hg
  have ha := hg.1.1
  have h102 := fun x y z H => sf102 (W0 := W0) (H := H) (k := 29) (n := n) (a := a) (b := b) (l := l) (x := x) (y := y) (z := z)
  have h144 := k144_2 (k := 29) (n := n) (a := a) (b := b) 178 178 101 101 rfl en178 en178 S2 S2 hcl hkg
  simp only [Tr.av] at h102 h144 ⊢
  refine SF.pureLe (sf_start [2] 182 Tryz.func178 rfl rfl rfl (by decide) (by simp) ?_)
  repeat' first
    | refine aSq ?_ | refine aRt ?_ | refine aBl ?_ | refine tN ?_ | refine tR ?_ | refine iR ?_
    | (refine rg 19 ?_; refine tk 1 ?_; refine fc en102 ?_; refine SF.then (h102 _ _ _ _) ?_; (first | (refine te (fun hb => ?_) (fun hb => ?_) <;> (try simp at hb) <;> try (exfalso; omega)) | (refine tk 1 ?_)); all_goals (refine tk 4 ?_; (first | (refine fg en43 ?_; refine SF.then (sf43 hB (by omega)) ?_) | (refine tk 1 ?_)); refine tk 1 ?_; (first | (refine te (fun hb => ?_) (fun hb => ?_) <;> (try simp at hb) <;> try (exfalso; omega)) | (refine tk 1 ?_)); all_goals (refine tk 2 ?_; (first | (refine fg en144 ?_; refine SF.then (h144 _) ?_) | (refine tk 1 ?_)); refine tk 2 ?_; refine dn ?_)))
    | refine ru ?_
    | (refine awp_if rfl (fun hb => ?_) (fun hb => ?_) <;> (try simp at hb) <;> try (exfalso; omega))
    | fail
  all_goals (clear h102 h144 S1 S2 hg hkg hcl)
  all_goals first | (simp_all [retQ, bareT, is_2_29, beq0]; done) | (by_cases q1 : a = [] <;> by_cases q2 : b = [] <;> by_cases q3 : n = 0 <;> simp_all [retQ, bareT, is_2_29, beq0])
theorem ex_30 (hB : LibOK W0) {N : Nat} (S1 : FormOK W0 177 1 N) (S2 : FormOK W0 178 2 N) {n : Int} {a b : Str} {l : List Tr} (H : Hp) (hcl : Tr.cnts l ≤ N) (hg : (Tr.node 30 n a b l).good) : SF Tryz.prog W0 178 [(Tr.node 30 n a b l).av] H fun r H' => H' = H ∧ r = .bool (isB (.node 30 n a b l) 2) := by
  have hkg := Tr.good_kids hg
  have ha := hg.1.1
  have h102 := fun x y z H => sf102 (W0 := W0) (H := H) (k := 30) (n := n) (a := a) (b := b) (l := l) (x := x) (y := y) (z := z)
  have h200 := sf200 (W0 := W0) S2 (k := 30) (n := n) (a := a) (b := b) (l := l) (m := 3) (H := H) hcl hkg
  simp only [Tr.av] at h102 h200 ⊢
  refine SF.pureLe (sf_start [2] 182 Tryz.func178 rfl rfl rfl (by decide) (by simp) ?_)
  repeat' first
    | refine aSq ?_ | refine aRt ?_ | refine aBl ?_ | refine tN ?_ | refine tR ?_ | refine iR ?_
    | (refine rg 21 ?_; refine tk 1 ?_; refine fc en200 ?_; refine SF.then h200 ?_; refine tk 1 ?_; refine dn ?_)
    | refine ru ?_
    | (refine awp_if rfl (fun hb => ?_) (fun hb => ?_) <;> (try simp at hb) <;> try (exfalso; omega))
    | fail
  all_goals (clear h102 h200 S1 S2 hg hkg hcl)
  all_goals have hes : kidsB l [101, 101, 101] = (decide ((l.length : Int) = 3) && l.all fun t => isB t 2) := kidsB_es 3 l
  all_goals first | (simp_all [retQ, bareT, is_2_30, beq0, hes]; done) | (by_cases q1 : a = [] <;> by_cases q2 : b = [] <;> by_cases q3 : n = 0 <;> simp_all [retQ, bareT, is_2_30, beq0, hes])
theorem ex_31 (hB : LibOK W0) {N : Nat} (S1 : FormOK W0 177 1 N) (S2 : FormOK W0 178 2 N) {n : Int} {a b : Str} {l : List Tr} (H : Hp) (hcl : Tr.cnts l ≤ N) (hg : (Tr.node 31 n a b l).good) : SF Tryz.prog W0 178 [(Tr.node 31 n a b l).av] H fun r H' => H' = H ∧ r = .bool (isB (.node 31 n a b l) 2) := by
  have hkg := Tr.good_kids hg
  have ha := hg.1.1
  have h102 := fun x y z H => sf102 (W0 := W0) (H := H) (k := 31) (n := n) (a := a) (b := b) (l := l) (x := x) (y := y) (z := z)
  have h144 := k144_2 (k := 31) (n := n) (a := a) (b := b) 178 178 101 101 rfl en178 en178 S2 S2 hcl hkg
  simp only [Tr.av] at h102 h144 ⊢
  refine SF.pureLe (sf_start [2] 182 Tryz.func178 rfl rfl rfl (by decide) (by simp) ?_)
  repeat' first
    | refine aSq ?_ | refine aRt ?_ | refine aBl ?_ | refine tN ?_ | refine tR ?_ | refine iR ?_
    | (refine rg 23 ?_; refine tk 1 ?_; refine fc en102 ?_; refine SF.then (h102 _ _ _ _) ?_; (first | (refine te (fun hb => ?_) (fun hb => ?_) <;> (try simp at hb) <;> try (exfalso; omega)) | (refine tk 1 ?_)); all_goals (refine tk 6 ?_; (first | (refine te (fun hb => ?_) (fun hb => ?_) <;> (try simp at hb) <;> try (exfalso; omega)) | (refine tk 1 ?_)); all_goals (refine tk 6 ?_; (first | (refine te (fun hb => ?_) (fun hb => ?_) <;> (try simp at hb) <;> try (exfalso; omega)) | (refine tk 1 ?_)); all_goals (refine tk 2 ?_; (first | (refine fg en144 ?_; refine SF.then (h144 _) ?_) | (refine tk 1 ?_)); refine tk 2 ?_; refine dn ?_))))
    | refine ru ?_
    | (refine awp_if rfl (fun hb => ?_) (fun hb => ?_) <;> (try simp at hb) <;> try (exfalso; omega))
    | fail
  all_goals (clear h102 h144 S1 S2 hg hkg hcl)
  all_goals first | (simp_all [retQ, bareT, is_2_31, beq0]; done) | (by_cases q1 : a = [] <;> by_cases q2 : b = [] <;> by_cases r1 : 1 ≤ n <;> by_cases r2 : n ≤ 5 <;> first | (exfalso; omega) | (simp_all [retQ, bareT, is_2_31, beq0]; done) | (exact ⟨Gr.refl _, .bool false, by simp, by rw [is_2_31]; simp [r1, r2]⟩))
end Go.Av
namespace Go.Av
open Go.Proofs
variable {W0 : World}
set_option maxRecDepth 10000
set_option maxHeartbeats 4000000
theorem ex_32 (hB : LibOK W0) {N : Nat} (S1 : FormOK W0 177 1 N) (S2 : FormOK W0 178 2 N) {n : Int} {a b : Str} {l : List Tr} (H : Hp) (hcl : Tr.cnts l ≤ N) (hg : (Tr.node 32 n a b l).good) : SF Tryz.prog W0 178 [(Tr.node 32 n a b l).av] H fun r H' => H' = H ∧ r = .bool (isB (.node 32 n a b l) 2) := by
  have hkg := Tr.good_kids hg
  have h102 := fun x y z H => sf102 (W0 := W0) (H := H) (k := 32) (n := n) (a := a) (b := b) (l := l) (x := x) (y := y) (z := z)
  have h201 := sf201 hB S2 (k := 32) (n := n) (a := a) (b := b) (l := l) (m := 1) (H := H) (by omega) hkg
  refine SF.pureLe (sf_start [2] 182 Tryz.func178 rfl rfl rfl (by decide) (by simp) ?_)
  cases l with
  | nil =>
    simp only [Tr.av] at h102 h201 ⊢
    repeat' first
      | refine aSq ?_ | refine aRt ?_ | refine aBl ?_ | refine tN ?_ | refine tR ?_ | refine iR ?_
      | (refine rg 25 ?_; refine tk 1 ?_; refine fc en102 ?_; refine SF.then (h102 _ _ _ _) ?_; (first | (refine te (fun hb => ?_) (fun hb => ?_) <;> (try simp at hb) <;> try (exfalso; omega)) | (refine tk 1 ?_)); all_goals (refine tk 1 ?_; (first | (refine fg en201 ?_; refine SF.then h201 ?_) | (refine tk 1 ?_)); refine tk 1 ?_; (first | (refine te (fun hb => ?_) (fun hb => ?_) <;> (try simp at hb) <;> try (exfalso; omega)) | (refine tk 1 ?_)); all_goals (refine tk 6 ?_; (first | (refine fg en178 ?_; refine SF.then (sf178 ..) ?_) | (refine tk 1 ?_)); refine tk 2 ?_; refine dn ?_)))
      | refine ru ?_
      | (refine awp_if rfl (fun hb => ?_) (fun hb => ?_) <;> (try simp at hb) <;> try (exfalso; omega))
      | fail
    all_goals (exact ⟨Gr.refl _, .bool false, by simp, by rw [is_2_32, kidsB_e0]; simp⟩)
  | cons t l =>
    have h178 := S2 t H (Nat.le_trans (mem_cnt (by simp)) hcl) (hkg.2 t (by simp))
    simp only [Tr.av, List.drop_succ_cons, List.drop_zero] at h102 h201 ⊢
    have e0 : decide (1 < (t :: l).length) = decide (l ≠ []) := by cases l <;> simp
    rw [e0] at h201
    have e2 : isB (.node 32 n a b (t :: l)) 2 = (bareT n a b false false false && ((decide (l ≠ []) && l.all fun t => isB t 9) && isB t 2)) := by
      rw [is_2_32, kidsB_eA, Bool.and_comm (isB t 2)]; simp only [bareT, Bool.false_or, Bool.and_assoc]
    rw [e2]
    generalize (decide (l ≠ []) && l.all fun t => isB t 9) = ar at *
    clear e0 e2
    repeat' first
      | refine aSq ?_ | refine aRt ?_ | refine aBl ?_ | refine tN ?_ | refine tR ?_ | refine iR ?_
      | (refine rg 25 ?_; refine tk 1 ?_; refine fc en102 ?_; refine SF.then (h102 _ _ _ _) ?_; (first | (refine te (fun hb => ?_) (fun hb => ?_) <;> (try simp at hb) <;> try (exfalso; omega)) | (refine tk 1 ?_)); all_goals (refine tk 1 ?_; (first | (refine fg en201 ?_; refine SF.then h201 ?_) | (refine tk 1 ?_)); refine tk 1 ?_; (first | (refine te (fun hb => ?_) (fun hb => ?_) <;> (try simp at hb) <;> try (exfalso; omega)) | (refine tk 1 ?_)); all_goals (refine tk 6 ?_; (first | (refine fg en178 ?_; refine SF.then h178 ?_) | (refine tk 1 ?_)); refine tk 2 ?_; refine dn ?_)))
      | refine ru ?_
      | (refine awp_if rfl (fun hb => ?_) (fun hb => ?_) <;> (try simp at hb) <;> try (exfalso; omega))
      | fail
    all_goals (clear h102 h201 h178 S1 S2 hg hkg hcl)
    all_goals (simp_all [retQ])
theorem ex_33 (hB : LibOK W0) {N : Nat} (S1 : FormOK W0 177 1 N) (S2 : FormOK W0 178 2 N) {n : Int} {a b : Str} {l : List Tr} (H : Hp) (hcl : Tr.cnts l ≤ N) (hg : (Tr.node 33 n a b l).good) : SF Tryz.prog W0 178 [(Tr.node 33 n a b l).av] H fun r H' => H' = H ∧ r = .bool (isB (.node 33 n a b l) 2) := by
  have hkg := Tr.good_kids hg
  have h102 := fun x y z H => sf102 (W0 := W0) (H := H) (k := 33) (n := n) (a := a) (b := b) (l := l) (x := x) (y := y) (z := z)
  have h201 := sf201 hB S2 (k := 33) (n := n) (a := a) (b := b) (l := l) (m := 2) (H := H) (by omega) hkg
  refine SF.pureLe (sf_start [2] 182 Tryz.func178 rfl rfl rfl (by decide) (by simp) ?_)
  match l with
  | [] =>
    simp only [Tr.av] at h102 h201 ⊢
    repeat' first
      | refine aSq ?_ | refine aRt ?_ | refine aBl ?_ | refine tN ?_ | refine tR ?_ | refine iR ?_
      | (refine rg 27 ?_; refine tk 1 ?_; refine fc en102 ?_; refine SF.then (h102 _ _ _ _) ?_; (first | (refine te (fun hb => ?_) (fun hb => ?_) <;> (try simp at hb) <;> try (exfalso; omega)) | (refine tk 1 ?_)); all_goals (refine tk 1 ?_; (first | (refine fg en201 ?_; refine SF.then h201 ?_) | (refine tk 1 ?_)); refine tk 1 ?_; (first | (refine te (fun hb => ?_) (fun hb => ?_) <;> (try simp at hb) <;> try (exfalso; omega)) | (refine tk 1 ?_)); all_goals (refine tk 6 ?_; (first | (refine fg en178 ?_; refine SF.then (sf178 ..) ?_) | (refine tk 1 ?_)); refine tk 1 ?_; (first | (refine te (fun hb => ?_) (fun hb => ?_) <;> (try simp at hb) <;> try (exfalso; omega)) | (refine tk 1 ?_)); all_goals (refine tk 6 ?_; (first | (refine fg en177 ?_; refine SF.then (sf177 ..) ?_) | (refine tk 1 ?_)); refine tk 2 ?_; refine dn ?_))))
      | refine ru ?_
      | (refine awp_if rfl (fun hb => ?_) (fun hb => ?_) <;> (try simp at hb) <;> try (exfalso; omega))
      | fail
    all_goals (exact ⟨Gr.refl _, .bool false, by simp, by rw [is_2_33, kidsB_et0]; simp⟩)
  | [t] =>
    simp only [Tr.av] at h102 h201 ⊢
    repeat' first
      | refine aSq ?_ | refine aRt ?_ | refine aBl ?_ | refine tN ?_ | refine tR ?_ | refine iR ?_
      | (refine rg 27 ?_; refine tk 1 ?_; refine fc en102 ?_; refine SF.then (h102 _ _ _ _) ?_; (first | (refine te (fun hb => ?_) (fun hb => ?_) <;> (try simp at hb) <;> try (exfalso; omega)) | (refine tk 1 ?_)); all_goals (refine tk 1 ?_; (first | (refine fg en201 ?_; refine SF.then h201 ?_) | (refine tk 1 ?_)); refine tk 1 ?_; (first | (refine te (fun hb => ?_) (fun hb => ?_) <;> (try simp at hb) <;> try (exfalso; omega)) | (refine tk 1 ?_)); all_goals (refine tk 6 ?_; (first | (refine fg en178 ?_; refine SF.then (sf178 ..) ?_) | (refine tk 1 ?_)); refine tk 1 ?_; (first | (refine te (fun hb => ?_) (fun hb => ?_) <;> (try simp at hb) <;> try (exfalso; omega)) | (refine tk 1 ?_)); all_goals (refine tk 6 ?_; (first | (refine fg en177 ?_; refine SF.then (sf177 ..) ?_) | (refine tk 1 ?_)); refine tk 2 ?_; refine dn ?_))))
      | refine ru ?_
      | (refine awp_if rfl (fun hb => ?_) (fun hb => ?_) <;> (try simp at hb) <;> try (exfalso; omega))
      | fail
    all_goals (exact ⟨Gr.refl _, .bool false, by simp, by rw [is_2_33, kidsB_et1]; simp⟩)
  | t :: u :: l =>
    have h178 := S2 t H (Nat.le_trans (mem_cnt (by simp)) hcl) (hkg.2 t (by simp))
    have h177 := S1 u H (Nat.le_trans (mem_cnt (by simp)) hcl) (hkg.2 u (by simp))
    simp only [Tr.av, List.drop_succ_cons, List.drop_zero] at h102 h201 ⊢
    have e0 : decide (2 < (t :: u :: l).length) = decide (l ≠ []) := by cases l <;> simp
    rw [e0] at h201
    have e2 : isB (.node 33 n a b (t :: u :: l)) 2 = (bareT n a b false false false && ((decide (l ≠ []) && l.all fun t => isB t 9) && (isB t 2 && isB u 1))) := by
      rw [is_2_33, kidsB_etA, ← Bool.and_assoc (isB t 2), Bool.and_comm (isB t 2 && isB u 1)]; simp only [bareT, Bool.false_or, Bool.and_assoc]
    rw [e2]
    generalize (decide (l ≠ []) && l.all fun t => isB t 9) = ar at *
    clear e0 e2
    repeat' first
      | refine aSq ?_ | refine aRt ?_ | refine aBl ?_ | refine tN ?_ | refine tR ?_ | refine iR ?_
      | (refine rg 27 ?_; refine tk 1 ?_; refine fc en102 ?_; refine SF.then (h102 _ _ _ _) ?_; (first | (refine te (fun hb => ?_) (fun hb => ?_) <;> (try simp at hb) <;> try (exfalso; omega)) | (refine tk 1 ?_)); all_goals (refine tk 1 ?_; (first | (refine fg en201 ?_; refine SF.then h201 ?_) | (refine tk 1 ?_)); refine tk 1 ?_; (first | (refine te (fun hb => ?_) (fun hb => ?_) <;> (try simp at hb) <;> try (exfalso; omega)) | (refine tk 1 ?_)); all_goals (refine tk 6 ?_; (first | (refine fg en178 ?_; refine SF.then h178 ?_) | (refine tk 1 ?_)); refine tk 1 ?_; (first | (refine te (fun hb => ?_) (fun hb => ?_) <;> (try simp at hb) <;> try (exfalso; omega)) | (refine tk 1 ?_)); all_goals (refine tk 6 ?_; (first | (refine fg en177 ?_; refine SF.then h177 ?_) | (refine tk 1 ?_)); refine tk 2 ?_; refine dn ?_))))
      | refine ru ?_
      | (refine awp_if rfl (fun hb => ?_) (fun hb => ?_) <;> (try simp at hb) <;> try (exfalso; omega))
      | fail
    all_goals (clear h102 h201 h178 h177 S1 S2 hg hkg hcl)
    all_goals (simp_all [retQ])
theorem sf178 (hB : LibOK W0) {N : Nat} (S1 : FormOK W0 177 1 N) (S2 : FormOK W0 178 2 N) : FormOK W0 178 2 (N + 1) := by
  intro t H hN hg
  obtain ⟨k, n, a, b, l, rfl⟩ := good_node hg
  have hkg := Tr.good_kids hg
  have hcl : Tr.cnts l ≤ N := by simp only [Tr.cnt] at hN; omega
  by_cases h20 : k = 20
  · subst h20; exact ex_20 hB S1 S2 H hcl hg
  by_cases h21 : k = 21
  · subst h21; exact ex_21 hB S1 S2 H hcl hg
  by_cases h22 : k = 22
  · subst h22; exact ex_22 hB S1 S2 H hcl hg
  by_cases h23 : k = 23
  · subst h23; exact ex_23 hB S1 S2 H hcl hg
  by_cases h24 : k = 24
  · subst h24; exact ex_24 hB S1 S2 H hcl hg
  by_cases h25 : k = 25
  · subst h25; exact ex_25 hB S1 S2 H hcl hg
  by_cases h26 : k = 26
  · subst h26; exact ex_26 hB S1 S2 H hcl hg
  by_cases h27 : k = 27
  · subst h27; exact ex_27 hB S1 S2 H hcl hg
  by_cases h28 : k = 28
  · subst h28; exact ex_28 hB S1 S2 H hcl hg
  by_cases h29 : k = 29
  · subst h29; exact ex_29 hB S1 S2 H hcl hg
  by_cases h30 : k = 30
  · subst h30; exact ex_30 hB S1 S2 H hcl hg
  by_cases h31 : k = 31
  · subst h31; exact ex_31 hB S1 S2 H hcl hg
  by_cases h32 : k = 32
  · subst h32; exact ex_32 hB S1 S2 H hcl hg
  by_cases h33 : k = 33
  · subst h33; exact ex_33 hB S1 S2 H hcl hg
  simp only [Tr.av]
  refine SF.pureLe (sf_start [2] 182 Tryz.func178 rfl rfl rfl (by decide) (by simp) ?_)
  rw [is_2_else n a b l h20 h21 h22 h23 h24 h25 h26 h27 h28 h29 h30 h31 h32 h33]
  repeat' first
    | refine aSq ?_ | refine aRt ?_ | refine aSk ?_ | refine aBl ?_ | refine tN ?_
    | refine ru ?_
    | (refine awp_if rfl (fun hb => ?_) (fun hb => ?_) <;> (try simp at hb) <;> try (exfalso; omega))
    | fail
  all_goals (exact ⟨Gr.refl _, .bool false, by simp, rfl⟩)
end Go.Av
