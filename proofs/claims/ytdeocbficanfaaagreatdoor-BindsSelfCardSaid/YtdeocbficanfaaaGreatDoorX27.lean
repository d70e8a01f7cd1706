/-
  Go read by value: lemmas (part 27): D25, D26, D27, F10.
-/
import Derived.Test.YtdeocbficanfaaaGreatDoorX21
import Derived.Test.YtdeocbficanfaaaGreatDoorX26
set_option linter.unusedVariables false
set_option linter.unusedSimpArgs false
set_option linter.unusedSectionVars false
namespace Go.Av
open Go.Proofs
variable {W0 : World}
set_option maxRecDepth 10000
set_option maxHeartbeats 4000000
structure Sh (W0 : World) (N : Nat) : Prop where
  ty : FormOK W0 177 1 N
  ex : FormOK W0 178 2 N
  mo : FormOK W0 146 3 N
  sg : FormOK W0 145 4 N
  sp : FormOK W0 176 5 N
  inn : ∀ (t : Tr) (H : Hp), t.cnt ≤ N → t.good → SF Tryz.prog W0 147 [t.av] H fun r H' => H' = H ∧ r = .bool (isB t 6 && innerB [105] t)
theorem sh_146_40 (hB : LibOK W0) {N : Nat} (S : Sh W0 N) {n : Int} {a b : Str} {l : List Tr} (H : Hp) (hcl : Tr.cnts l ≤ N) (hg : (Tr.node 40 n a b l).good) : SF Tryz.prog W0 146 [(Tr.node 40 n a b l).av] H fun r H' => H' = H ∧ r = .bool (isB (.node 40 n a b l) 3) := by
  have hkg := Tr.good_kids hg
  have ha := hg.1.1
  have hb0 := hg.1.2.1
  have h102 := fun x y z H => sf102 (W0 := W0) (H := H) (k := 40) (n := n) (a := a) (b := b) (l := l) (x := x) (y := y) (z := z)
  have h103 := sf103 (W0 := W0) (k := 40) (n := n) (a := a) (b := b) (l := l) (m := 0) (H := H) (f := 147) (caps := []) (p := fun t => isB t 6 && innerB [105] t) hkg.1 (Nat.zero_le _) en147 (fun t ht => S.inn t H (Nat.le_trans (mem_cnt ht) hcl) (hkg.2 t ht))
  have hks : kidsB l [42, 105] = l.all (fun t => isB t 6 && innerB [105] t) := by rw [kidsB_star]; rfl
  rw [List.drop_zero, ← hks] at h103
  clear hks
  simp only [Tr.av] at h102 h103 ⊢
  refine SF.pureLe (sf_start [2] 69 Tryz.func146 rfl rfl rfl (by decide) (by simp) ?_)
  repeat' first
    | refine aSq ?_ | refine aRt ?_ | refine aBl ?_ | refine tN ?_ | refine tR ?_ | refine iR ?_
    | (refine rg 3 ?_; refine tk 1 ?_; refine fc en102 ?_; refine SF.then (h102 _ _ _ _) ?_; (first | (refine te (fun hb => ?_) (fun hb => ?_) <;> (try simp at hb) <;> try (exfalso; omega)) | (refine tk 1 ?_)); all_goals (refine tk 1 ?_; (first | (refine fg en103 ?_; refine SF.then h103 ?_) | (refine tk 1 ?_)); refine tk 2 ?_; refine dn ?_))
    | refine ru ?_
    | (refine awp_if rfl (fun hb => ?_) (fun hb => ?_) <;> (try simp at hb) <;> try (exfalso; omega))
    | fail
  all_goals (clear h102 h103 S hg hkg hcl)
  all_goals first | (simp_all [retQ, bareT, is_3_40, beq0]; done) | (by_cases q1 : a = [] <;> by_cases q2 : b = [] <;> by_cases q3 : n = 0 <;> simp_all [retQ, bareT, is_3_40, beq0])
theorem sh_146_41 (hB : LibOK W0) {N : Nat} (S : Sh W0 N) {n : Int} {a b : Str} {l : List Tr} (H : Hp) (hcl : Tr.cnts l ≤ N) (hg : (Tr.node 41 n a b l).good) : SF Tryz.prog W0 146 [(Tr.node 41 n a b l).av] H fun r H' => H' = H ∧ r = .bool (isB (.node 41 n a b l) 3) := by
  have hkg := Tr.good_kids hg
  have ha := hg.1.1
  have hb0 := hg.1.2.1
  have h102 := fun x y z H => sf102 (W0 := W0) (H := H) (k := 41) (n := n) (a := a) (b := b) (l := l) (x := x) (y := y) (z := z)
  have h144_0 := k144n (W0 := W0) (k := 41) (n := n) (a := a) (b := b) hkg
  simp only [Tr.av] at h102 h144_0 ⊢
  refine SF.pureLe (sf_start [2] 69 Tryz.func146 rfl rfl rfl (by decide) (by simp) ?_)
  repeat' first
    | refine aSq ?_ | refine aRt ?_ | refine aBl ?_ | refine tN ?_ | refine tR ?_ | refine iR ?_
    | (refine rg 5 ?_; refine tk 1 ?_; refine fc en102 ?_; refine SF.then (h102 _ _ _ _) ?_; (first | (refine te (fun hb => ?_) (fun hb => ?_) <;> (try simp at hb) <;> try (exfalso; omega)) | (refine tk 1 ?_)); all_goals (refine tk 4 ?_; (first | (refine fg en26 ?_; first | refine SF.then (sf26 hB ha) ?_ | refine SF.then (sf26 hB hb0) ?_) | (refine tk 1 ?_)); refine tk 1 ?_; (first | (refine te (fun hb => ?_) (fun hb => ?_) <;> (try simp at hb) <;> try (exfalso; omega)) | (refine tk 1 ?_)); all_goals (refine tk 1 ?_; (first | (refine fg en144 ?_; refine SF.then (h144_0 _) ?_) | (refine tk 1 ?_)); refine tk 2 ?_; refine dn ?_)))
    | refine ru ?_
    | (refine awp_if rfl (fun hb => ?_) (fun hb => ?_) <;> (try simp at hb) <;> try (exfalso; omega))
    | fail
  all_goals (clear h102 h144_0 S hg hkg hcl)
  all_goals first | (simp_all [retQ, bareT, is_3_41, beq0]; done) | (by_cases q1 : a = [] <;> by_cases q2 : b = [] <;> by_cases q3 : n = 0 <;> simp_all [retQ, bareT, is_3_41, beq0])
theorem sh_146_42 (hB : LibOK W0) {N : Nat} (S : Sh W0 N) {n : Int} {a b : Str} {l : List Tr} (H : Hp) (hcl : Tr.cnts l ≤ N) (hg : (Tr.node 42 n a b l).good) : SF Tryz.prog W0 146 [(Tr.node 42 n a b l).av] H fun r H' => H' = H ∧ r = .bool (isB (.node 42 n a b l) 3) := by
  have hkg := Tr.good_kids hg
  have ha := hg.1.1
  have hb0 := hg.1.2.1
  have h102 := fun x y z H => sf102 (W0 := W0) (H := H) (k := 42) (n := n) (a := a) (b := b) (l := l) (x := x) (y := y) (z := z)
  have h144_0 := k144_1 (k := 42) (n := n) (a := a) (b := b) 146 109 rfl en146 S.mo hcl hkg
  simp only [Tr.av] at h102 h144_0 ⊢
  refine SF.pureLe (sf_start [2] 69 Tryz.func146 rfl rfl rfl (by decide) (by simp) ?_)
  repeat' first
    | refine aSq ?_ | refine aRt ?_ | refine aBl ?_ | refine tN ?_ | refine tR ?_ | refine iR ?_
    | (refine rg 7 ?_; refine tk 1 ?_; refine fc en102 ?_; refine SF.then (h102 _ _ _ _) ?_; (first | (refine te (fun hb => ?_) (fun hb => ?_) <;> (try simp at hb) <;> try (exfalso; omega)) | (refine tk 1 ?_)); all_goals (refine tk 4 ?_; (first | (refine fg en43 ?_; first | refine SF.then (sf43 hB (Nat.le_trans ha (by decide))) ?_ | refine SF.then (sf43 hB (Nat.le_trans hb0 (by decide))) ?_) | (refine tk 1 ?_)); refine tk 1 ?_; (first | (refine te (fun hb => ?_) (fun hb => ?_) <;> (try simp at hb) <;> try (exfalso; omega)) | (refine tk 1 ?_)); all_goals (refine tk 2 ?_; (first | (refine fg en144 ?_; refine SF.then (h144_0 _) ?_) | (refine tk 1 ?_)); refine tk 2 ?_; refine dn ?_)))
    | refine ru ?_
    | (refine awp_if rfl (fun hb => ?_) (fun hb => ?_) <;> (try simp at hb) <;> try (exfalso; omega))
    | fail
  all_goals (clear h102 h144_0 S hg hkg hcl)
  all_goals first | (simp_all [retQ, bareT, is_3_42, beq0]; done) | (by_cases q1 : a = [] <;> by_cases q2 : b = [] <;> by_cases q3 : n = 0 <;> simp_all [retQ, bareT, is_3_42, beq0])
theorem sh_146_43 (hB : LibOK W0) {N : Nat} (S : Sh W0 N) {n : Int} {a b : Str} {l : List Tr} (H : Hp) (hcl : Tr.cnts l ≤ N) (hg : (Tr.node 43 n a b l).good) : SF Tryz.prog W0 146 [(Tr.node 43 n a b l).av] H fun r H' => H' = H ∧ r = .bool (isB (.node 43 n a b l) 3) := by
  have hkg := Tr.good_kids hg
  have ha := hg.1.1
  have hb0 := hg.1.2.1
  have h102 := fun x y z H => sf102 (W0 := W0) (H := H) (k := 43) (n := n) (a := a) (b := b) (l := l) (x := x) (y := y) (z := z)
  have h144_0 := k144_2 (k := 43) (n := n) (a := a) (b := b) 146 145 109 115 rfl en146 en145 S.mo S.sg hcl hkg
  simp only [Tr.av] at h102 h144_0 ⊢
  refine SF.pureLe (sf_start [2] 69 Tryz.func146 rfl rfl rfl (by decide) (by simp) ?_)
  repeat' first
    | refine aSq ?_ | refine aRt ?_ | refine aBl ?_ | refine tN ?_ | refine tR ?_ | refine iR ?_
    | (refine rg 9 ?_; refine tk 1 ?_; refine fc en102 ?_; refine SF.then (h102 _ _ _ _) ?_; (first | (refine te (fun hb => ?_) (fun hb => ?_) <;> (try simp at hb) <;> try (exfalso; omega)) | (refine tk 1 ?_)); all_goals (refine tk 5 ?_; (first | (refine te (fun hb => ?_) (fun hb => ?_) <;> (try simp at hb) <;> try (exfalso; omega)) | (refine tk 1 ?_)); all_goals (refine tk 7 ?_; (first | (refine te (fun hb => ?_) (fun hb => ?_) <;> (try simp at hb) <;> try (exfalso; omega)) | (refine tk 1 ?_)); all_goals (refine tk 2 ?_; (first | (refine fg en144 ?_; refine SF.then (h144_0 _) ?_) | (refine tk 1 ?_)); refine tk 2 ?_; refine dn ?_))))
    | refine ru ?_
    | (refine awp_if rfl (fun hb => ?_) (fun hb => ?_) <;> (try simp at hb) <;> try (exfalso; omega))
    | fail
  all_goals (clear h102 h144_0 S hg hkg hcl)
  all_goals first | (simp_all [retQ, bareT, is_3_43, beq0]; done) | (by_cases q1 : a = [] <;> by_cases q2 : b = [] <;> by_cases r1 : 0 ≤ n <;> by_cases r2 : n ≤ 1 <;> first | (exfalso; omega) | (simp_all [retQ, bareT, is_3_43, beq0]; done) | (exact ⟨Gr.refl _, .bool false, by simp, by rw [is_3_43]; simp [r1, r2]⟩))
theorem sh_146 (hB : LibOK W0) {N : Nat} (S : Sh W0 N) : FormOK W0 146 3 (N + 1) := by
  intro t H hN hg
  obtain ⟨k, n, a, b, l, rfl⟩ := good_node hg
  have hkg := Tr.good_kids hg
  have ha := hg.1.1
  have hcl : Tr.cnts l ≤ N := by simp only [Tr.cnt] at hN; omega
  by_cases h40 : k = 40
  · subst h40; exact sh_146_40 hB S H hcl hg
  by_cases h41 : k = 41
  · subst h41; exact sh_146_41 hB S H hcl hg
  by_cases h42 : k = 42
  · subst h42; exact sh_146_42 hB S H hcl hg
  by_cases h43 : k = 43
  · subst h43; exact sh_146_43 hB S H hcl hg
  have h102 := fun x y z H => sf102 (W0 := W0) (H := H) (k := k) (n := n) (a := a) (b := b) (l := l) (x := x) (y := y) (z := z)
  simp only [Tr.av] at h102 ⊢
  refine SF.pureLe (sf_start [2] 69 Tryz.func146 rfl rfl rfl (by decide) (by simp) ?_)
  rw [is_3_else n a b l h40 h41 h42 h43]
  repeat' first
    | refine aSq ?_ | refine aRt ?_ | refine aSk ?_ | refine aBl ?_ | refine tN ?_
    | refine ru ?_
    | (refine awp_if rfl (fun hb => ?_) (fun hb => ?_) <;> (try simp at hb) <;> try (exfalso; omega))
    | fail
  all_goals (exact ⟨Gr.refl _, .bool false, by simp, by simp⟩)
theorem sh_145_50 (hB : LibOK W0) {N : Nat} (S : Sh W0 N) {n : Int} {a b : Str} {l : List Tr} (H : Hp) (hcl : Tr.cnts l ≤ N) (hg : (Tr.node 50 n a b l).good) : SF Tryz.prog W0 145 [(Tr.node 50 n a b l).av] H fun r H' => H' = H ∧ r = .bool (isB (.node 50 n a b l) 4) := by
  have hkg := Tr.good_kids hg
  have ha := hg.1.1
  have hb0 := hg.1.2.1
  have h102 := fun x y z H => sf102 (W0 := W0) (H := H) (k := 50) (n := n) (a := a) (b := b) (l := l) (x := x) (y := y) (z := z)
  have h103 := sf103 (W0 := W0) (k := 50) (n := n) (a := a) (b := b) (l := l) (m := 0) (H := H) (f := 176) (caps := []) (p := fun t => isB t 5) hkg.1 (Nat.zero_le _) en176 (fun t ht => S.sp t H (Nat.le_trans (mem_cnt ht) hcl) (hkg.2 t ht))
  have hks : kidsB l [42, 112] = l.all (fun t => isB t 5) := by rw [kidsB_star]; simp [innerB]; rfl
  rw [List.drop_zero, ← hks] at h103
  clear hks
  simp only [Tr.av] at h102 h103 ⊢
  refine SF.pureLe (sf_start [2] 46 Tryz.func145 rfl rfl rfl (by decide) (by simp) ?_)
  repeat' first
    | refine aSq ?_ | refine aRt ?_ | refine aBl ?_ | refine tN ?_ | refine tR ?_ | refine iR ?_
    | (refine rg 3 ?_; refine tk 1 ?_; refine fc en102 ?_; refine SF.then (h102 _ _ _ _) ?_; (first | (refine te (fun hb => ?_) (fun hb => ?_) <;> (try simp at hb) <;> try (exfalso; omega)) | (refine tk 1 ?_)); all_goals (refine tk 1 ?_; (first | (refine fg en103 ?_; refine SF.then h103 ?_) | (refine tk 1 ?_)); refine tk 2 ?_; refine dn ?_))
    | refine ru ?_
    | (refine awp_if rfl (fun hb => ?_) (fun hb => ?_) <;> (try simp at hb) <;> try (exfalso; omega))
    | fail
  all_goals (clear h102 h103 S hg hkg hcl)
  all_goals first | (simp_all [retQ, bareT, is_4_50, beq0]; done) | (by_cases q1 : a = [] <;> by_cases q2 : b = [] <;> by_cases q3 : n = 0 <;> simp_all [retQ, bareT, is_4_50, beq0])
theorem sh_145_51 (hB : LibOK W0) {N : Nat} (S : Sh W0 N) {n : Int} {a b : Str} {l : List Tr} (H : Hp) (hcl : Tr.cnts l ≤ N) (hg : (Tr.node 51 n a b l).good) : SF Tryz.prog W0 145 [(Tr.node 51 n a b l).av] H fun r H' => H' = H ∧ r = .bool (isB (.node 51 n a b l) 4) := by
  have hkg := Tr.good_kids hg
  have ha := hg.1.1
  have hb0 := hg.1.2.1
  have h102 := fun x y z H => sf102 (W0 := W0) (H := H) (k := 51) (n := n) (a := a) (b := b) (l := l) (x := x) (y := y) (z := z)
  have h144_0 := k144n (W0 := W0) (k := 51) (n := n) (a := a) (b := b) hkg
  simp only [Tr.av] at h102 h144_0 ⊢
  refine SF.pureLe (sf_start [2] 46 Tryz.func145 rfl rfl rfl (by decide) (by simp) ?_)
  repeat' first
    | refine aSq ?_ | refine aRt ?_ | refine aBl ?_ | refine tN ?_ | refine tR ?_ | refine iR ?_
    | (refine rg 5 ?_; refine tk 1 ?_; refine fc en102 ?_; refine SF.then (h102 _ _ _ _) ?_; (first | (refine te (fun hb => ?_) (fun hb => ?_) <;> (try simp at hb) <;> try (exfalso; omega)) | (refine tk 1 ?_)); all_goals (refine tk 4 ?_; (first | (refine fg en43 ?_; first | refine SF.then (sf43 hB (Nat.le_trans ha (by decide))) ?_ | refine SF.then (sf43 hB (Nat.le_trans hb0 (by decide))) ?_) | (refine tk 1 ?_)); refine tk 1 ?_; (first | (refine te (fun hb => ?_) (fun hb => ?_) <;> (try simp at hb) <;> try (exfalso; omega)) | (refine tk 1 ?_)); all_goals (refine tk 1 ?_; (first | (refine fg en144 ?_; refine SF.then (h144_0 _) ?_) | (refine tk 1 ?_)); refine tk 2 ?_; refine dn ?_)))
    | refine ru ?_
    | (refine awp_if rfl (fun hb => ?_) (fun hb => ?_) <;> (try simp at hb) <;> try (exfalso; omega))
    | fail
  all_goals (clear h102 h144_0 S hg hkg hcl)
  all_goals first | (simp_all [retQ, bareT, is_4_51, beq0]; done) | (by_cases q1 : a = [] <;> by_cases q2 : b = [] <;> by_cases q3 : n = 0 <;> simp_all [retQ, bareT, is_4_51, beq0])
theorem sh_145_52 (hB : LibOK W0) {N : Nat} (S : Sh W0 N) {n : Int} {a b : Str} {l : List Tr} (H : Hp) (hcl : Tr.cnts l ≤ N) (hg : (Tr.node 52 n a b l).good) : SF Tryz.prog W0 145 [(Tr.node 52 n a b l).av] H fun r H' => H' = H ∧ r = .bool (isB (.node 52 n a b l) 4) := by
  have hkg := Tr.good_kids hg
  have ha := hg.1.1
  have hb0 := hg.1.2.1
  have h102 := fun x y z H => sf102 (W0 := W0) (H := H) (k := 52) (n := n) (a := a) (b := b) (l := l) (x := x) (y := y) (z := z)
  have h144_0 := k144_2 (k := 52) (n := n) (a := a) (b := b) 145 177 115 116 rfl en145 en177 S.sg S.ty hcl hkg
  simp only [Tr.av] at h102 h144_0 ⊢
  refine SF.pureLe (sf_start [2] 46 Tryz.func145 rfl rfl rfl (by decide) (by simp) ?_)
  repeat' first
    | refine aSq ?_ | refine aRt ?_ | refine aBl ?_ | refine tN ?_ | refine tR ?_ | refine iR ?_
    | (refine rg 7 ?_; refine tk 1 ?_; refine fc en102 ?_; refine SF.then (h102 _ _ _ _) ?_; (first | (refine te (fun hb => ?_) (fun hb => ?_) <;> (try simp at hb) <;> try (exfalso; omega)) | (refine tk 1 ?_)); all_goals (refine tk 4 ?_; (first | (refine fg en26 ?_; first | refine SF.then (sf26 hB ha) ?_ | refine SF.then (sf26 hB hb0) ?_) | (refine tk 1 ?_)); refine tk 1 ?_; (first | (refine te (fun hb => ?_) (fun hb => ?_) <;> (try simp at hb) <;> try (exfalso; omega)) | (refine tk 1 ?_)); all_goals (refine tk 2 ?_; (first | (refine fg en144 ?_; refine SF.then (h144_0 _) ?_) | (refine tk 1 ?_)); refine tk 2 ?_; refine dn ?_)))
    | refine ru ?_
    | (refine awp_if rfl (fun hb => ?_) (fun hb => ?_) <;> (try simp at hb) <;> try (exfalso; omega))
    | fail
  all_goals (clear h102 h144_0 S hg hkg hcl)
  all_goals first | (simp_all [retQ, bareT, is_4_52, beq0]; done) | (by_cases q1 : a = [] <;> by_cases q2 : b = [] <;> by_cases q3 : n = 0 <;> simp_all [retQ, bareT, is_4_52, beq0])
theorem sh_145 (hB : LibOK W0) {N : Nat} (S : Sh W0 N) : FormOK W0 145 4 (N + 1) := by
  intro t H hN hg
  obtain ⟨k, n, a, b, l, rfl⟩ := good_node hg
  have hkg := Tr.good_kids hg
  have ha := hg.1.1
  have hcl : Tr.cnts l ≤ N := by simp only [Tr.cnt] at hN; omega
  by_cases h50 : k = 50
  · subst h50; exact sh_145_50 hB S H hcl hg
  by_cases h51 : k = 51
  · subst h51; exact sh_145_51 hB S H hcl hg
  by_cases h52 : k = 52
  · subst h52; exact sh_145_52 hB S H hcl hg
  have h102 := fun x y z H => sf102 (W0 := W0) (H := H) (k := k) (n := n) (a := a) (b := b) (l := l) (x := x) (y := y) (z := z)
  simp only [Tr.av] at h102 ⊢
  refine SF.pureLe (sf_start [2] 46 Tryz.func145 rfl rfl rfl (by decide) (by simp) ?_)
  rw [is_4_else n a b l h50 h51 h52]
  repeat' first
    | refine aSq ?_ | refine aRt ?_ | refine aSk ?_ | refine aBl ?_ | refine tN ?_
    | refine ru ?_
    | (refine awp_if rfl (fun hb => ?_) (fun hb => ?_) <;> (try simp at hb) <;> try (exfalso; omega))
    | fail
  all_goals (exact ⟨Gr.refl _, .bool false, by simp, by simp⟩)
end Go.Av
namespace Go.Av
open Go.Proofs
variable {W0 : World}
set_option maxRecDepth 10000
set_option maxHeartbeats 4000000
theorem sh_176_60 (hB : LibOK W0) {N : Nat} (S : Sh W0 N) {n : Int} {a b : Str} {l : List Tr} (H : Hp) (hcl : Tr.cnts l ≤ N) (hg : (Tr.node 60 n a b l).good) : SF Tryz.prog W0 176 [(Tr.node 60 n a b l).av] H fun r H' => H' = H ∧ r = .bool (isB (.node 60 n a b l) 5) := by
  have hkg := Tr.good_kids hg
  have ha := hg.1.1
  have hb0 := hg.1.2.1
  have h102 := fun x y z H => sf102 (W0 := W0) (H := H) (k := 60) (n := n) (a := a) (b := b) (l := l) (x := x) (y := y) (z := z)
  have h144_0 := k144_1 (k := 60) (n := n) (a := a) (b := b) 177 116 rfl en177 S.ty hcl hkg
  simp only [Tr.av] at h102 h144_0 ⊢
  refine SF.pureLe (sf_start [2] 76 Tryz.func176 rfl rfl rfl (by decide) (by simp) ?_)
  repeat' first
    | refine aSq ?_ | refine aRt ?_ | refine aSk ?_ | refine aBl ?_ | refine tN ?_ | refine tR ?_ | refine iR ?_
    | (refine rg 6 ?_; refine tk 1 ?_; refine fc en102 ?_; refine SF.then (h102 _ _ _ _) ?_; refine tk 1 ?_; (first | (refine te (fun hb => ?_) (fun hb => ?_) <;> (try simp at hb) <;> try (exfalso; omega)) | (refine tk 1 ?_)); all_goals (refine tk 4 ?_; (first | (refine fg en43 ?_; first | refine SF.then (sf43 hB (Nat.le_trans ha (by decide))) ?_ | refine SF.then (sf43 hB (Nat.le_trans hb0 (by decide))) ?_) | (refine tk 1 ?_)); refine tk 2 ?_; refine dn ?_))
    | (refine rg 10 ?_; refine tk 2 ?_; refine fc en144 ?_; refine SF.then (h144_0 _) ?_; refine tk 1 ?_; refine dn ?_)
    | refine ru ?_
    | (refine awp_if rfl (fun hb => ?_) (fun hb => ?_) <;> (try simp at hb) <;> try (exfalso; omega))
    | fail
  all_goals (clear h102 h144_0 S hg hkg hcl)
  all_goals first | (simp_all [retQ, bareT, is_5_60, beq0]; done) | (by_cases q1 : a = [] <;> by_cases q2 : b = [] <;> by_cases q3 : n = 0 <;> simp_all [retQ, bareT, is_5_60, beq0])
theorem sh_176_61 (hB : LibOK W0) {N : Nat} (S : Sh W0 N) {n : Int} {a b : Str} {l : List Tr} (H : Hp) (hcl : Tr.cnts l ≤ N) (hg : (Tr.node 61 n a b l).good) : SF Tryz.prog W0 176 [(Tr.node 61 n a b l).av] H fun r H' => H' = H ∧ r = .bool (isB (.node 61 n a b l) 5) := by
  have hkg := Tr.good_kids hg
  have ha := hg.1.1
  have hb0 := hg.1.2.1
  have h102 := fun x y z H => sf102 (W0 := W0) (H := H) (k := 61) (n := n) (a := a) (b := b) (l := l) (x := x) (y := y) (z := z)
  have h144_0 := k144n (W0 := W0) (k := 61) (n := n) (a := a) (b := b) hkg
  have h144_1 := k144_1 (k := 61) (n := n) (a := a) (b := b) 177 116 rfl en177 S.ty hcl hkg
  simp only [Tr.av] at h102 h144_0 h144_1 ⊢
  refine SF.pureLe (sf_start [2] 76 Tryz.func176 rfl rfl rfl (by decide) (by simp) ?_)
  repeat' first
    | refine aSq ?_ | refine aRt ?_ | refine aSk ?_ | refine aBl ?_ | refine tN ?_ | refine tR ?_ | refine iR ?_
    | (refine rg 6 ?_; refine tk 1 ?_; refine fc en102 ?_; refine SF.then (h102 _ _ _ _) ?_; refine tk 1 ?_; (first | (refine te (fun hb => ?_) (fun hb => ?_) <;> (try simp at hb) <;> try (exfalso; omega)) | (refine tk 1 ?_)); all_goals (refine tk 4 ?_; (first | (refine fg en43 ?_; first | refine SF.then (sf43 hB (Nat.le_trans ha (by decide))) ?_ | refine SF.then (sf43 hB (Nat.le_trans hb0 (by decide))) ?_) | (refine tk 1 ?_)); refine tk 2 ?_; refine dn ?_))
    | (refine rg 12 ?_; refine tk 1 ?_; refine fc en144 ?_; (first | refine SF.then (h144_0 _) ?_ | refine SF.then (h144_1 _) ?_); (first | (refine te (fun hb => ?_) (fun hb => ?_) <;> (try simp at hb) <;> try (exfalso; omega)) | (refine tk 1 ?_)); all_goals (refine tk 2 ?_; (first | (refine fg en144 ?_; first | refine SF.then (h144_0 _) ?_ | refine SF.then (h144_1 _) ?_) | (refine tk 1 ?_)); refine tk 2 ?_; refine dn ?_))
    | refine ru ?_
    | (refine awp_if rfl (fun hb => ?_) (fun hb => ?_) <;> (try simp at hb) <;> try (exfalso; omega))
    | fail
  all_goals (clear h102 h144_0 h144_1 S hg hkg hcl)
  all_goals first | (simp_all [retQ, bareT, is_5_61, beq0]; done) | (by_cases q1 : a = [] <;> by_cases q2 : b = [] <;> by_cases q3 : n = 0 <;> simp_all [retQ, bareT, is_5_61, beq0])
theorem sh_176_62 (hB : LibOK W0) {N : Nat} (S : Sh W0 N) {n : Int} {a b : Str} {l : List Tr} (H : Hp) (hcl : Tr.cnts l ≤ N) (hg : (Tr.node 62 n a b l).good) : SF Tryz.prog W0 176 [(Tr.node 62 n a b l).av] H fun r H' => H' = H ∧ r = .bool (isB (.node 62 n a b l) 5) := by
  have hkg := Tr.good_kids hg
  have ha := hg.1.1
  have hb0 := hg.1.2.1
  have h102 := fun x y z H => sf102 (W0 := W0) (H := H) (k := 62) (n := n) (a := a) (b := b) (l := l) (x := x) (y := y) (z := z)
  have h179 := sf179 hB S.ty 62 n a b l H hcl hkg
  simp only [Tr.av] at h102 h179 ⊢
  refine SF.pureLe (sf_start [2] 76 Tryz.func176 rfl rfl rfl (by decide) (by simp) ?_)
  repeat' first
    | refine aSq ?_ | refine aRt ?_ | refine aSk ?_ | refine aBl ?_ | refine tN ?_ | refine tR ?_ | refine iR ?_
    | (refine rg 6 ?_; refine tk 1 ?_; refine fc en102 ?_; refine SF.then (h102 _ _ _ _) ?_; refine tk 1 ?_; (first | (refine te (fun hb => ?_) (fun hb => ?_) <;> (try simp at hb) <;> try (exfalso; omega)) | (refine tk 1 ?_)); all_goals (refine tk 4 ?_; (first | (refine fg en43 ?_; first | refine SF.then (sf43 hB (Nat.le_trans ha (by decide))) ?_ | refine SF.then (sf43 hB (Nat.le_trans hb0 (by decide))) ?_) | (refine tk 1 ?_)); refine tk 2 ?_; refine dn ?_))
    | (refine rg 14 ?_; refine tk 1 ?_; refine fc en179 ?_; refine SF.then h179 ?_; refine tk 1 ?_; refine dn ?_)
    | refine ru ?_
    | (refine awp_if rfl (fun hb => ?_) (fun hb => ?_) <;> (try simp at hb) <;> try (exfalso; omega))
    | fail
  all_goals (clear h102 h179 S hg hkg hcl)
  all_goals first | (simp_all [retQ, bareT, is_5_62, beq0]; done) | (by_cases q1 : a = [] <;> by_cases q2 : b = [] <;> by_cases q3 : n = 0 <;> simp_all [retQ, bareT, is_5_62, beq0])
theorem sh_176_63 (hB : LibOK W0) {N : Nat} (S : Sh W0 N) {n : Int} {a b : Str} {l : List Tr} (H : Hp) (hcl : Tr.cnts l ≤ N) (hg : (Tr.node 63 n a b l).good) : SF Tryz.prog W0 176 [(Tr.node 63 n a b l).av] H fun r H' => H' = H ∧ r = .bool (isB (.node 63 n a b l) 5) := by
  have hkg := Tr.good_kids hg
  have ha := hg.1.1
  have hb0 := hg.1.2.1
  have h102 := fun x y z H => sf102 (W0 := W0) (H := H) (k := 63) (n := n) (a := a) (b := b) (l := l) (x := x) (y := y) (z := z)
  have h144_0 := k144_1 (k := 63) (n := n) (a := a) (b := b) 145 115 rfl en145 S.sg hcl hkg
  simp only [Tr.av] at h102 h144_0 ⊢
  refine SF.pureLe (sf_start [2] 76 Tryz.func176 rfl rfl rfl (by decide) (by simp) ?_)
  repeat' first
    | refine aSq ?_ | refine aRt ?_ | refine aSk ?_ | refine aBl ?_ | refine tN ?_ | refine tR ?_ | refine iR ?_
    | (refine rg 6 ?_; refine tk 1 ?_; refine fc en102 ?_; refine SF.then (h102 _ _ _ _) ?_; refine tk 1 ?_; (first | (refine te (fun hb => ?_) (fun hb => ?_) <;> (try simp at hb) <;> try (exfalso; omega)) | (refine tk 1 ?_)); all_goals (refine tk 4 ?_; (first | (refine fg en43 ?_; first | refine SF.then (sf43 hB (Nat.le_trans ha (by decide))) ?_ | refine SF.then (sf43 hB (Nat.le_trans hb0 (by decide))) ?_) | (refine tk 1 ?_)); refine tk 2 ?_; refine dn ?_))
    | (refine rg 16 ?_; refine tk 2 ?_; refine fc en144 ?_; refine SF.then (h144_0 _) ?_; refine tk 1 ?_; refine dn ?_)
    | refine ru ?_
    | (refine awp_if rfl (fun hb => ?_) (fun hb => ?_) <;> (try simp at hb) <;> try (exfalso; omega))
    | fail
  all_goals (clear h102 h144_0 S hg hkg hcl)
  all_goals first | (simp_all [retQ, bareT, is_5_63, beq0]; done) | (by_cases q1 : a = [] <;> by_cases q2 : b = [] <;> by_cases q3 : n = 0 <;> simp_all [retQ, bareT, is_5_63, beq0])
theorem sh_176_64 (hB : LibOK W0) {N : Nat} (S : Sh W0 N) {n : Int} {a b : Str} {l : List Tr} (H : Hp) (hcl : Tr.cnts l ≤ N) (hg : (Tr.node 64 n a b l).good) : SF Tryz.prog W0 176 [(Tr.node 64 n a b l).av] H fun r H' => H' = H ∧ r = .bool (isB (.node 64 n a b l) 5) := by
  have hkg := Tr.good_kids hg
  have ha := hg.1.1
  have hb0 := hg.1.2.1
  have h102 := fun x y z H => sf102 (W0 := W0) (H := H) (k := 64) (n := n) (a := a) (b := b) (l := l) (x := x) (y := y) (z := z)
  have h144_0 := k144_1 (k := 64) (n := n) (a := a) (b := b) 145 115 rfl en145 S.sg hcl hkg
  simp only [Tr.av] at h102 h144_0 ⊢
  refine SF.pureLe (sf_start [2] 76 Tryz.func176 rfl rfl rfl (by decide) (by simp) ?_)
  repeat' first
    | refine aSq ?_ | refine aRt ?_ | refine aBl ?_ | refine tN ?_ | refine tR ?_ | refine iR ?_
    | (refine rg 3 ?_; refine tk 1 ?_; refine fc en102 ?_; refine SF.then (h102 _ _ _ _) ?_; (first | (refine te (fun hb => ?_) (fun hb => ?_) <;> (try simp at hb) <;> try (exfalso; omega)) | (refine tk 1 ?_)); all_goals (refine tk 2 ?_; (first | (refine fg en144 ?_; refine SF.then (h144_0 _) ?_) | (refine tk 1 ?_)); refine tk 2 ?_; refine dn ?_))
    | refine ru ?_
    | (refine awp_if rfl (fun hb => ?_) (fun hb => ?_) <;> (try simp at hb) <;> try (exfalso; omega))
    | fail
  all_goals (clear h102 h144_0 S hg hkg hcl)
  all_goals first | (simp_all [retQ, bareT, is_5_64, beq0]; done) | (by_cases q1 : a = [] <;> by_cases q2 : b = [] <;> by_cases q3 : n = 0 <;> simp_all [retQ, bareT, is_5_64, beq0])
theorem sh_176_65 (hB : LibOK W0) {N : Nat} (S : Sh W0 N) {n : Int} {a b : Str} {l : List Tr} (H : Hp) (hcl : Tr.cnts l ≤ N) (hg : (Tr.node 65 n a b l).good) : SF Tryz.prog W0 176 [(Tr.node 65 n a b l).av] H fun r H' => H' = H ∧ r = .bool (isB (.node 65 n a b l) 5) := by
  have hkg := Tr.good_kids hg
  have ha := hg.1.1
  have hb0 := hg.1.2.1
  have h102 := fun x y z H => sf102 (W0 := W0) (H := H) (k := 65) (n := n) (a := a) (b := b) (l := l) (x := x) (y := y) (z := z)
  have h144_0 := k144n (W0 := W0) (k := 65) (n := n) (a := a) (b := b) hkg
  simp only [Tr.av] at h102 h144_0 ⊢
  refine SF.pureLe (sf_start [2] 76 Tryz.func176 rfl rfl rfl (by decide) (by simp) ?_)
  repeat' first
    | refine aSq ?_ | refine aRt ?_ | refine aBl ?_ | refine tN ?_ | refine tR ?_ | refine iR ?_
    | (refine rg 5 ?_; refine tk 1 ?_; refine fc en102 ?_; refine SF.then (h102 _ _ _ _) ?_; (first | (refine te (fun hb => ?_) (fun hb => ?_) <;> (try simp at hb) <;> try (exfalso; omega)) | (refine tk 1 ?_)); all_goals (refine tk 4 ?_; (first | (refine fg en26 ?_; first | refine SF.then (sf26 hB ha) ?_ | refine SF.then (sf26 hB hb0) ?_) | (refine tk 1 ?_)); refine tk 1 ?_; (first | (refine te (fun hb => ?_) (fun hb => ?_) <;> (try simp at hb) <;> try (exfalso; omega)) | (refine tk 1 ?_)); all_goals (refine tk 4 ?_; (first | (refine fg en26 ?_; first | refine SF.then (sf26 hB ha) ?_ | refine SF.then (sf26 hB hb0) ?_) | (refine tk 1 ?_)); refine tk 1 ?_; (first | (refine te (fun hb => ?_) (fun hb => ?_) <;> (try simp at hb) <;> try (exfalso; omega)) | (refine tk 1 ?_)); all_goals (refine tk 1 ?_; (first | (refine fg en144 ?_; refine SF.then (h144_0 _) ?_) | (refine tk 1 ?_)); refine tk 2 ?_; refine dn ?_))))
    | refine ru ?_
    | (refine awp_if rfl (fun hb => ?_) (fun hb => ?_) <;> (try simp at hb) <;> try (exfalso; omega))
    | fail
  all_goals (clear h102 h144_0 S hg hkg hcl)
  all_goals first | (simp_all [retQ, bareT, is_5_65, beq0]; done) | (by_cases q1 : a = [] <;> by_cases q2 : b = [] <;> by_cases q3 : n = 0 <;> simp_all [retQ, bareT, is_5_65, beq0])
theorem sh_176 (hB : LibOK W0) {N : Nat} (S : Sh W0 N) : FormOK W0 176 5 (N + 1) := by
  intro t H hN hg
  obtain ⟨k, n, a, b, l, rfl⟩ := good_node hg
  have hkg := Tr.good_kids hg
  have ha := hg.1.1
  have hcl : Tr.cnts l ≤ N := by simp only [Tr.cnt] at hN; omega
  by_cases h60 : k = 60
  · subst h60; exact sh_176_60 hB S H hcl hg
  by_cases h61 : k = 61
  · subst h61; exact sh_176_61 hB S H hcl hg
  by_cases h62 : k = 62
  · subst h62; exact sh_176_62 hB S H hcl hg
  by_cases h63 : k = 63
  · subst h63; exact sh_176_63 hB S H hcl hg
  by_cases h64 : k = 64
  · subst h64; exact sh_176_64 hB S H hcl hg
  by_cases h65 : k = 65
  · subst h65; exact sh_176_65 hB S H hcl hg
  have h102 := fun x y z H => sf102 (W0 := W0) (H := H) (k := k) (n := n) (a := a) (b := b) (l := l) (x := x) (y := y) (z := z)
  simp only [Tr.av] at h102 ⊢
  refine SF.pureLe (sf_start [2] 76 Tryz.func176 rfl rfl rfl (by decide) (by simp) ?_)
  rw [is_5_else n a b l h60 h61 h62 h63 h64 h65]
  repeat' first
    | refine aSq ?_ | refine aRt ?_ | refine aSk ?_ | refine aBl ?_ | refine tN ?_ | refine tR ?_
    | (refine rg 6 ?_; refine tk 1 ?_; refine fc en102 ?_; refine SF.then (h102 _ _ _ _) ?_; refine tk 1 ?_; (first | (refine te (fun hb => ?_) (fun hb => ?_) <;> (try simp at hb) <;> try (exfalso; omega)) | (refine tk 1 ?_)); all_goals (refine tk 4 ?_; (first | (refine fg en43 ?_; refine SF.then (sf43 hB (Nat.le_trans ha (by decide))) ?_) | (refine tk 1 ?_)); refine tk 2 ?_; refine dn ?_))
    | refine ru ?_
    | (refine awp_if rfl (fun hb => ?_) (fun hb => ?_) <;> (try simp at hb) <;> try (exfalso; omega))
    | fail
  all_goals (exact ⟨Gr.refl _, .bool false, by simp, by simp⟩)
theorem sh_147_70 (hB : LibOK W0) {N : Nat} (S : Sh W0 N) {n : Int} {a b : Str} {l : List Tr} (H : Hp) (hcl : Tr.cnts l ≤ N) (hg : (Tr.node 70 n a b l).good) : SF Tryz.prog W0 147 [(Tr.node 70 n a b l).av] H fun r H' => H' = H ∧ r = .bool (isB (.node 70 n a b l) 6 && innerB [105] (.node 70 n a b l)) := by
  have hkg := Tr.good_kids hg
  have ha := hg.1.1
  have hb0 := hg.1.2.1
  have h102 := fun x y z H => sf102 (W0 := W0) (H := H) (k := 70) (n := n) (a := a) (b := b) (l := l) (x := x) (y := y) (z := z)
  have h144_0 := k144_1 (k := 70) (n := n) (a := a) (b := b) 178 101 rfl en178 S.ex hcl hkg
  have h144_1 := k144_2 (k := 70) (n := n) (a := a) (b := b) 177 178 116 101 rfl en177 en178 S.ty S.ex hcl hkg
  simp only [Tr.av] at h102 h144_0 h144_1 ⊢
  refine SF.pureLe (sf_start [2] 56 Tryz.func147 rfl rfl rfl (by decide) (by simp) ?_)
  repeat' first
    | refine aSq ?_ | refine aRt ?_ | refine aSk ?_ | refine aBl ?_ | refine tN ?_ | refine tR ?_ | refine iR ?_
    | (refine rg 1 ?_; refine tk 1 ?_; refine fc en102 ?_; refine SF.then (h102 _ _ _ _) ?_; refine tk 1 ?_; refine dn ?_)
    | (refine rg 7 ?_; refine tk 4 ?_; refine fc en43 ?_; (first | refine SF.then (sf43 hB (Nat.le_trans ha (by decide))) ?_ | refine SF.then (sf43 hB (Nat.le_trans hb0 (by decide))) ?_); refine tk 1 ?_; refine dn ?_)
    | (refine rg 11 ?_; refine tk 2 ?_; refine fc en144 ?_; (first | refine SF.then (h144_0 _) ?_ | refine SF.then (h144_1 _) ?_); (first | (refine te (fun hb => ?_) (fun hb => ?_) <;> (try simp at hb) <;> try (exfalso; omega)) | (refine tk 1 ?_)); all_goals (refine tk 2 ?_; (first | (refine fg en144 ?_; first | refine SF.then (h144_0 _) ?_ | refine SF.then (h144_1 _) ?_) | (refine tk 1 ?_)); refine tk 2 ?_; refine dn ?_))
    | refine ru ?_
    | (refine awp_if rfl (fun hb => ?_) (fun hb => ?_) <;> (try simp at hb) <;> try (exfalso; omega))
    | fail
  all_goals (clear h102 h144_0 h144_1 S hg hkg hcl)
  all_goals first | (simp_all [retQ, bareT, is_6_70, beq0, innerB, Tr.kind]; done) | (by_cases q1 : a = [] <;> by_cases q2 : b = [] <;> by_cases q3 : n = 0 <;> simp_all [retQ, bareT, is_6_70, beq0, innerB, Tr.kind])
theorem sh_147_71 (hB : LibOK W0) {N : Nat} (S : Sh W0 N) {n : Int} {a b : Str} {l : List Tr} (H : Hp) (hcl : Tr.cnts l ≤ N) (hg : (Tr.node 71 n a b l).good) : SF Tryz.prog W0 147 [(Tr.node 71 n a b l).av] H fun r H' => H' = H ∧ r = .bool (isB (.node 71 n a b l) 6 && innerB [105] (.node 71 n a b l)) := by
  have hkg := Tr.good_kids hg
  have ha := hg.1.1
  have hb0 := hg.1.2.1
  have h102 := fun x y z H => sf102 (W0 := W0) (H := H) (k := 71) (n := n) (a := a) (b := b) (l := l) (x := x) (y := y) (z := z)
  have h144_0 := k144_1 (k := 71) (n := n) (a := a) (b := b) 177 116 rfl en177 S.ty hcl hkg
  simp only [Tr.av] at h102 h144_0 ⊢
  refine SF.pureLe (sf_start [2] 56 Tryz.func147 rfl rfl rfl (by decide) (by simp) ?_)
  repeat' first
    | refine aSq ?_ | refine aRt ?_ | refine aSk ?_ | refine aBl ?_ | refine tN ?_ | refine tR ?_ | refine iR ?_
    | (refine rg 1 ?_; refine tk 1 ?_; refine fc en102 ?_; refine SF.then (h102 _ _ _ _) ?_; refine tk 1 ?_; refine dn ?_)
    | (refine rg 7 ?_; refine tk 4 ?_; refine fc en43 ?_; (first | refine SF.then (sf43 hB (Nat.le_trans ha (by decide))) ?_ | refine SF.then (sf43 hB (Nat.le_trans hb0 (by decide))) ?_); refine tk 1 ?_; refine dn ?_)
    | (refine rg 13 ?_; refine tk 2 ?_; refine fc en144 ?_; refine SF.then (h144_0 _) ?_; refine tk 1 ?_; refine dn ?_)
    | refine ru ?_
    | (refine awp_if rfl (fun hb => ?_) (fun hb => ?_) <;> (try simp at hb) <;> try (exfalso; omega))
    | fail
  all_goals (clear h102 h144_0 S hg hkg hcl)
  all_goals first | (simp_all [retQ, bareT, is_6_71, beq0, innerB, Tr.kind]; done) | (by_cases q1 : a = [] <;> by_cases q2 : b = [] <;> by_cases q3 : n = 0 <;> simp_all [retQ, bareT, is_6_71, beq0, innerB, Tr.kind])
theorem sh_147_72 (hB : LibOK W0) {N : Nat} (S : Sh W0 N) {n : Int} {a b : Str} {l : List Tr} (H : Hp) (hcl : Tr.cnts l ≤ N) (hg : (Tr.node 72 n a b l).good) : SF Tryz.prog W0 147 [(Tr.node 72 n a b l).av] H fun r H' => H' = H ∧ r = .bool (isB (.node 72 n a b l) 6 && innerB [105] (.node 72 n a b l)) := by
  have hkg := Tr.good_kids hg
  have ha := hg.1.1
  have hb0 := hg.1.2.1
  have h102 := fun x y z H => sf102 (W0 := W0) (H := H) (k := 72) (n := n) (a := a) (b := b) (l := l) (x := x) (y := y) (z := z)
  have h179 := sf179 hB S.ty 72 n a b l H hcl hkg
  simp only [Tr.av] at h102 h179 ⊢
  refine SF.pureLe (sf_start [2] 56 Tryz.func147 rfl rfl rfl (by decide) (by simp) ?_)
  repeat' first
    | refine aSq ?_ | refine aRt ?_ | refine aSk ?_ | refine aBl ?_ | refine tN ?_ | refine tR ?_ | refine iR ?_
    | (refine rg 1 ?_; refine tk 1 ?_; refine fc en102 ?_; refine SF.then (h102 _ _ _ _) ?_; refine tk 1 ?_; refine dn ?_)
    | (refine rg 7 ?_; refine tk 4 ?_; refine fc en43 ?_; (first | refine SF.then (sf43 hB (Nat.le_trans ha (by decide))) ?_ | refine SF.then (sf43 hB (Nat.le_trans hb0 (by decide))) ?_); refine tk 1 ?_; refine dn ?_)
    | (refine rg 15 ?_; refine tk 1 ?_; refine fc en179 ?_; refine SF.then h179 ?_; refine tk 1 ?_; refine dn ?_)
    | refine ru ?_
    | (refine awp_if rfl (fun hb => ?_) (fun hb => ?_) <;> (try simp at hb) <;> try (exfalso; omega))
    | fail
  all_goals (clear h102 h179 S hg hkg hcl)
  all_goals first | (simp_all [retQ, bareT, is_6_72, beq0, innerB, Tr.kind]; done) | (by_cases q1 : a = [] <;> by_cases q2 : b = [] <;> by_cases q3 : n = 0 <;> simp_all [retQ, bareT, is_6_72, beq0, innerB, Tr.kind])
theorem sh_147_73 (hB : LibOK W0) {N : Nat} (S : Sh W0 N) {n : Int} {a b : Str} {l : List Tr} (H : Hp) (hcl : Tr.cnts l ≤ N) (hg : (Tr.node 73 n a b l).good) : SF Tryz.prog W0 147 [(Tr.node 73 n a b l).av] H fun r H' => H' = H ∧ r = .bool (isB (.node 73 n a b l) 6 && innerB [105] (.node 73 n a b l)) := by
  have hkg := Tr.good_kids hg
  have ha := hg.1.1
  have hb0 := hg.1.2.1
  have h102 := fun x y z H => sf102 (W0 := W0) (H := H) (k := 73) (n := n) (a := a) (b := b) (l := l) (x := x) (y := y) (z := z)
  have h144_0 := k144_1 (k := 73) (n := n) (a := a) (b := b) 146 109 rfl en146 S.mo hcl hkg
  simp only [Tr.av] at h102 h144_0 ⊢
  refine SF.pureLe (sf_start [2] 56 Tryz.func147 rfl rfl rfl (by decide) (by simp) ?_)
  repeat' first
    | refine aSq ?_ | refine aRt ?_ | refine aSk ?_ | refine aBl ?_ | refine tN ?_ | refine tR ?_ | refine iR ?_
    | (refine rg 1 ?_; refine tk 1 ?_; refine fc en102 ?_; refine SF.then (h102 _ _ _ _) ?_; refine tk 1 ?_; refine dn ?_)
    | (refine rg 7 ?_; refine tk 4 ?_; refine fc en43 ?_; (first | refine SF.then (sf43 hB (Nat.le_trans ha (by decide))) ?_ | refine SF.then (sf43 hB (Nat.le_trans hb0 (by decide))) ?_); refine tk 1 ?_; refine dn ?_)
    | (refine rg 17 ?_; refine tk 2 ?_; refine fc en144 ?_; refine SF.then (h144_0 _) ?_; refine tk 1 ?_; refine dn ?_)
    | refine ru ?_
    | (refine awp_if rfl (fun hb => ?_) (fun hb => ?_) <;> (try simp at hb) <;> try (exfalso; omega))
    | fail
  all_goals (clear h102 h144_0 S hg hkg hcl)
  all_goals first | (simp_all [retQ, bareT, is_6_73, beq0, innerB, Tr.kind]; done) | (by_cases q1 : a = [] <;> by_cases q2 : b = [] <;> by_cases q3 : n = 0 <;> simp_all [retQ, bareT, is_6_73, beq0, innerB, Tr.kind])
theorem sh_147_76 (hB : LibOK W0) {N : Nat} (S : Sh W0 N) {n : Int} {a b : Str} {l : List Tr} (H : Hp) (hcl : Tr.cnts l ≤ N) (hg : (Tr.node 76 n a b l).good) : SF Tryz.prog W0 147 [(Tr.node 76 n a b l).av] H fun r H' => H' = H ∧ r = .bool (isB (.node 76 n a b l) 6 && innerB [105] (.node 76 n a b l)) := by
  have hkg := Tr.good_kids hg
  have ha := hg.1.1
  have hb0 := hg.1.2.1
  have h102 := fun x y z H => sf102 (W0 := W0) (H := H) (k := 76) (n := n) (a := a) (b := b) (l := l) (x := x) (y := y) (z := z)
  have h144_0 := k144n (W0 := W0) (k := 76) (n := n) (a := a) (b := b) hkg
  simp only [Tr.av] at h102 h144_0 ⊢
  refine SF.pureLe (sf_start [2] 56 Tryz.func147 rfl rfl rfl (by decide) (by simp) ?_)
  repeat' first
    | refine aSq ?_ | refine aRt ?_ | refine aSk ?_ | refine aBl ?_ | refine tN ?_ | refine tR ?_ | refine iR ?_
    | (refine rg 1 ?_; refine tk 1 ?_; refine fc en102 ?_; refine SF.then (h102 _ _ _ _) ?_; refine tk 1 ?_; refine dn ?_)
    | (refine rg 6 ?_; refine tk 4 ?_; refine fc en26 ?_; (first | refine SF.then (sf26 hB ha) ?_ | refine SF.then (sf26 hB hb0) ?_); (first | (refine te (fun hb => ?_) (fun hb => ?_) <;> (try simp at hb) <;> try (exfalso; omega)) | (refine tk 1 ?_)); all_goals (refine tk 1 ?_; (first | (refine fg en144 ?_; refine SF.then (h144_0 _) ?_) | (refine tk 1 ?_)); refine tk 2 ?_; refine dn ?_))
    | refine ru ?_
    | (refine awp_if rfl (fun hb => ?_) (fun hb => ?_) <;> (try simp at hb) <;> try (exfalso; omega))
    | fail
  all_goals (clear h102 h144_0 S hg hkg hcl)
  all_goals first | (simp_all [retQ, bareT, is_6_76, beq0, innerB, Tr.kind]; done) | (by_cases q1 : a = [] <;> by_cases q2 : b = [] <;> by_cases q3 : n = 0 <;> simp_all [retQ, bareT, is_6_76, beq0, innerB, Tr.kind])
theorem sh_147_77 (hB : LibOK W0) {N : Nat} (S : Sh W0 N) {n : Int} {a b : Str} {l : List Tr} (H : Hp) (hcl : Tr.cnts l ≤ N) (hg : (Tr.node 77 n a b l).good) : SF Tryz.prog W0 147 [(Tr.node 77 n a b l).av] H fun r H' => H' = H ∧ r = .bool (isB (.node 77 n a b l) 6 && innerB [105] (.node 77 n a b l)) := by
  have hkg := Tr.good_kids hg
  have ha := hg.1.1
  have hb0 := hg.1.2.1
  have h102 := fun x y z H => sf102 (W0 := W0) (H := H) (k := 77) (n := n) (a := a) (b := b) (l := l) (x := x) (y := y) (z := z)
  have h144_0 := k144n (W0 := W0) (k := 77) (n := n) (a := a) (b := b) hkg
  simp only [Tr.av] at h102 h144_0 ⊢
  refine SF.pureLe (sf_start [2] 56 Tryz.func147 rfl rfl rfl (by decide) (by simp) ?_)
  repeat' first
    | refine aSq ?_ | refine aRt ?_ | refine aSk ?_ | refine aBl ?_ | refine tN ?_ | refine tR ?_ | refine iR ?_
    | (refine rg 1 ?_; refine tk 1 ?_; refine fc en102 ?_; refine SF.then (h102 _ _ _ _) ?_; refine tk 1 ?_; refine dn ?_)
    | (refine rg 6 ?_; refine tk 4 ?_; refine fc en26 ?_; (first | refine SF.then (sf26 hB ha) ?_ | refine SF.then (sf26 hB hb0) ?_); (first | (refine te (fun hb => ?_) (fun hb => ?_) <;> (try simp at hb) <;> try (exfalso; omega)) | (refine tk 1 ?_)); all_goals (refine tk 1 ?_; (first | (refine fg en144 ?_; refine SF.then (h144_0 _) ?_) | (refine tk 1 ?_)); refine tk 2 ?_; refine dn ?_))
    | refine ru ?_
    | (refine awp_if rfl (fun hb => ?_) (fun hb => ?_) <;> (try simp at hb) <;> try (exfalso; omega))
    | fail
  all_goals (clear h102 h144_0 S hg hkg hcl)
  all_goals first | (simp_all [retQ, bareT, is_6_77, beq0, innerB, Tr.kind]; done) | (by_cases q1 : a = [] <;> by_cases q2 : b = [] <;> by_cases q3 : n = 0 <;> simp_all [retQ, bareT, is_6_77, beq0, innerB, Tr.kind])
theorem sh_147 (hB : LibOK W0) {N : Nat} (S : Sh W0 N) : ∀ (t : Tr) (H : Hp), t.cnt ≤ N + 1 → t.good → SF Tryz.prog W0 147 [t.av] H fun r H' => H' = H ∧ r = .bool (isB t 6 && innerB [105] t) := by
  intro t H hN hg
  obtain ⟨k, n, a, b, l, rfl⟩ := good_node hg
  have hkg := Tr.good_kids hg
  have ha := hg.1.1
  have hcl : Tr.cnts l ≤ N := by simp only [Tr.cnt] at hN; omega
  by_cases h70 : k = 70
  · subst h70; exact sh_147_70 hB S H hcl hg
  by_cases h71 : k = 71
  · subst h71; exact sh_147_71 hB S H hcl hg
  by_cases h72 : k = 72
  · subst h72; exact sh_147_72 hB S H hcl hg
  by_cases h73 : k = 73
  · subst h73; exact sh_147_73 hB S H hcl hg
  by_cases h76 : k = 76
  · subst h76; exact sh_147_76 hB S H hcl hg
  by_cases h77 : k = 77
  · subst h77; exact sh_147_77 hB S H hcl hg
  by_cases h74 : k = 74
  · subst h74
    have e : (isB (.node 74 n a b l) 6 && innerB [105] (.node 74 n a b l)) = false := by simp [innerB, Tr.kind]
    rw [e]
    have h102 := fun x y z H => sf102 (W0 := W0) (H := H) (k := 74) (n := n) (a := a) (b := b) (l := l) (x := x) (y := y) (z := z)
    simp only [Tr.av] at h102 ⊢
    refine SF.pureLe (sf_start [2] 56 Tryz.func147 rfl rfl rfl (by decide) (by simp) ?_)
    repeat' first
      | refine aSq ?_ | refine aRt ?_ | refine aSk ?_ | refine aBl ?_ | refine tN ?_ | refine tR ?_
      | (refine rg 1 ?_; refine tk 1 ?_; refine fc en102 ?_; refine SF.then (h102 _ _ _ _) ?_; refine tk 1 ?_; refine dn ?_)
      | (refine rg 7 ?_; refine tk 4 ?_; refine fc en43 ?_; refine SF.then (sf43 hB (Nat.le_trans ha (by decide))) ?_; refine tk 1 ?_; refine dn ?_)
      | refine ru ?_
      | (refine awp_if rfl (fun hb => ?_) (fun hb => ?_) <;> (try simp at hb) <;> try (exfalso; omega))
      | fail
    all_goals (exact ⟨Gr.refl _, .bool false, by simp, rfl⟩)
  by_cases h75 : k = 75
  · subst h75
    have e : (isB (.node 75 n a b l) 6 && innerB [105] (.node 75 n a b l)) = false := by simp [innerB, Tr.kind]
    rw [e]
    have h102 := fun x y z H => sf102 (W0 := W0) (H := H) (k := 75) (n := n) (a := a) (b := b) (l := l) (x := x) (y := y) (z := z)
    simp only [Tr.av] at h102 ⊢
    refine SF.pureLe (sf_start [2] 56 Tryz.func147 rfl rfl rfl (by decide) (by simp) ?_)
    repeat' first
      | refine aSq ?_ | refine aRt ?_ | refine aSk ?_ | refine aBl ?_ | refine tN ?_ | refine tR ?_
      | (refine rg 1 ?_; refine tk 1 ?_; refine fc en102 ?_; refine SF.then (h102 _ _ _ _) ?_; refine tk 1 ?_; refine dn ?_)
      | (refine rg 7 ?_; refine tk 4 ?_; refine fc en43 ?_; refine SF.then (sf43 hB (Nat.le_trans ha (by decide))) ?_; refine tk 1 ?_; refine dn ?_)
      | refine ru ?_
      | (refine awp_if rfl (fun hb => ?_) (fun hb => ?_) <;> (try simp at hb) <;> try (exfalso; omega))
      | fail
    all_goals (exact ⟨Gr.refl _, .bool false, by simp, rfl⟩)
  have h102 := fun x y z H => sf102 (W0 := W0) (H := H) (k := k) (n := n) (a := a) (b := b) (l := l) (x := x) (y := y) (z := z)
  simp only [Tr.av] at h102 ⊢
  refine SF.pureLe (sf_start [2] 56 Tryz.func147 rfl rfl rfl (by decide) (by simp) ?_)
  rw [is_6_else n a b l h70 h71 h72 h73 h74 h75 h76 h77]
  repeat' first
    | refine aSq ?_ | refine aRt ?_ | refine aSk ?_ | refine aBl ?_ | refine tN ?_ | refine tR ?_
    | (refine rg 1 ?_; refine tk 1 ?_; refine fc en102 ?_; refine SF.then (h102 _ _ _ _) ?_; refine tk 1 ?_; refine dn ?_)
    | (refine rg 7 ?_; refine tk 4 ?_; refine fc en43 ?_; refine SF.then (sf43 hB (Nat.le_trans ha (by decide))) ?_; refine tk 1 ?_; refine dn ?_)
    | refine ru ?_
    | (refine awp_if rfl (fun hb => ?_) (fun hb => ?_) <;> (try simp at hb) <;> try (exfalso; omega))
    | fail
  all_goals (exact ⟨Gr.refl _, .bool false, by simp, by simp⟩)
end Go.Av
namespace Go.Av
open Go.Proofs
variable {W0 : World}
set_option maxRecDepth 10000
set_option maxHeartbeats 4000000
theorem sh_104_74 (hB : LibOK W0) {N : Nat} (S : Sh W0 N) {n : Int} {a b : Str} {l : List Tr} (H : Hp) (hcl : Tr.cnts l ≤ N) (hg : (Tr.node 74 n a b l).good) : SF Tryz.prog W0 104 [(Tr.node 74 n a b l).av] H fun r H' => H' = H ∧ r = .bool (isB (.node 74 n a b l) 6) := by
  have hkg := Tr.good_kids hg
  have ha := hg.1.1
  have hb0 := hg.1.2.1
  have h102 := fun x y z H => sf102 (W0 := W0) (H := H) (k := 74) (n := n) (a := a) (b := b) (l := l) (x := x) (y := y) (z := z)
  have h144_0 := k144_1 (k := 74) (n := n) (a := a) (b := b) 145 115 rfl en145 S.sg hcl hkg
  simp only [Tr.av] at h102 h144_0 ⊢
  refine SF.pureLe (sf_start [2] 48 Tryz.func104 rfl rfl rfl (by decide) (by simp) ?_)
  repeat' first
    | refine aSq ?_ | refine aRt ?_ | refine aBl ?_ | refine tN ?_ | refine tR ?_ | refine iR ?_
    | (refine rg 3 ?_; refine tk 1 ?_; refine fc en102 ?_; refine SF.then (h102 _ _ _ _) ?_; (first | (refine te (fun hb => ?_) (fun hb => ?_) <;> (try simp at hb) <;> try (exfalso; omega)) | (refine tk 1 ?_)); all_goals (refine tk 4 ?_; (first | (refine fg en43 ?_; first | refine SF.then (sf43 hB (Nat.le_trans ha (by decide))) ?_ | refine SF.then (sf43 hB (Nat.le_trans hb0 (by decide))) ?_) | (refine tk 1 ?_)); refine tk 1 ?_; (first | (refine te (fun hb => ?_) (fun hb => ?_) <;> (try simp at hb) <;> try (exfalso; omega)) | (refine tk 1 ?_)); all_goals (refine tk 2 ?_; (first | (refine fg en144 ?_; refine SF.then (h144_0 _) ?_) | (refine tk 1 ?_)); refine tk 2 ?_; refine dn ?_)))
    | refine ru ?_
    | (refine awp_if rfl (fun hb => ?_) (fun hb => ?_) <;> (try simp at hb) <;> try (exfalso; omega))
    | fail
  all_goals (clear h102 h144_0 S hg hkg hcl)
  all_goals first | (simp_all [retQ, bareT, is_6_74, beq0]; done) | (by_cases q1 : a = [] <;> by_cases q2 : b = [] <;> by_cases q3 : n = 0 <;> simp_all [retQ, bareT, is_6_74, beq0])
theorem sh_104_75 (hB : LibOK W0) {N : Nat} (S : Sh W0 N) {n : Int} {a b : Str} {l : List Tr} (H : Hp) (hcl : Tr.cnts l ≤ N) (hg : (Tr.node 75 n a b l).good) : SF Tryz.prog W0 104 [(Tr.node 75 n a b l).av] H fun r H' => H' = H ∧ r = .bool (isB (.node 75 n a b l) 6) := by
  have hkg := Tr.good_kids hg
  have ha := hg.1.1
  have hb0 := hg.1.2.1
  have h102 := fun x y z H => sf102 (W0 := W0) (H := H) (k := 75) (n := n) (a := a) (b := b) (l := l) (x := x) (y := y) (z := z)
  have h144_0 := k144_2 (k := 75) (n := n) (a := a) (b := b) 145 146 115 109 rfl en145 en146 S.sg S.mo hcl hkg
  simp only [Tr.av] at h102 h144_0 ⊢
  refine SF.pureLe (sf_start [2] 48 Tryz.func104 rfl rfl rfl (by decide) (by simp) ?_)
  repeat' first
    | refine aSq ?_ | refine aRt ?_ | refine aBl ?_ | refine tN ?_ | refine tR ?_ | refine iR ?_
    | (refine rg 5 ?_; refine tk 1 ?_; refine fc en102 ?_; refine SF.then (h102 _ _ _ _) ?_; (first | (refine te (fun hb => ?_) (fun hb => ?_) <;> (try simp at hb) <;> try (exfalso; omega)) | (refine tk 1 ?_)); all_goals (refine tk 4 ?_; (first | (refine fg en43 ?_; first | refine SF.then (sf43 hB (Nat.le_trans ha (by decide))) ?_ | refine SF.then (sf43 hB (Nat.le_trans hb0 (by decide))) ?_) | (refine tk 1 ?_)); refine tk 1 ?_; (first | (refine te (fun hb => ?_) (fun hb => ?_) <;> (try simp at hb) <;> try (exfalso; omega)) | (refine tk 1 ?_)); all_goals (refine tk 4 ?_; (first | (refine fg en43 ?_; first | refine SF.then (sf43 hB (Nat.le_trans ha (by decide))) ?_ | refine SF.then (sf43 hB (Nat.le_trans hb0 (by decide))) ?_) | (refine tk 1 ?_)); refine tk 1 ?_; (first | (refine te (fun hb => ?_) (fun hb => ?_) <;> (try simp at hb) <;> try (exfalso; omega)) | (refine tk 1 ?_)); all_goals (refine tk 2 ?_; (first | (refine fg en144 ?_; refine SF.then (h144_0 _) ?_) | (refine tk 1 ?_)); refine tk 2 ?_; refine dn ?_))))
    | refine ru ?_
    | (refine awp_if rfl (fun hb => ?_) (fun hb => ?_) <;> (try simp at hb) <;> try (exfalso; omega))
    | fail
  all_goals (clear h102 h144_0 S hg hkg hcl)
  all_goals first | (simp_all [retQ, bareT, is_6_75, beq0]; done) | (by_cases q1 : a = [] <;> by_cases q2 : b = [] <;> by_cases q3 : n = 0 <;> simp_all [retQ, bareT, is_6_75, beq0])
theorem sf100b {t : Tr} {H : Hp} (hc : t.cnt ≤ 67108864) (hs : t.slim) :
    SF Tryz.prog W0 100 [t.av] H fun r H' => H' = H ∧ ∃ c, r = .tuple [.agg [c], .int .i64 (packE t)] ∧ okCell c = true := by
  refine SF.pureLe (sf_startC 2 139 [3] 21 tab_ok Tryz.func100 rfl rfl rfl (by decide) (by simp) ?_)
  repeat' first
    | refine aSq ?_ | refine aRt ?_ | refine aSk ?_ | refine aBl ?_ | refine tN ?_ | refine tR ?_ | refine iR ?_
    | (refine rg 1 ?_; refine tk 1 ?_; refine fc en141 ?_; refine SF.then (sf141 _ _ _ (Nat.le_refl _) hs) ?_; refine tk 2 ?_; refine dn ?_)
    | (refine rg 3 ?_; refine tk 1 ?_; refine fc en142 ?_; refine SF.then (sf142 _ _ _ (Nat.le_refl _) hc hs) ?_; refine tk 2 ?_; refine dn ?_)
    | (refine rg 8 ?_; refine aops_take 2 (mu := mu0) tab_ok (by simp; rfl) ?_; refine aops_val rfl rfl rfl rfl rfl en143 (by simp; rfl) ?_; (have hle : t.cnt ≤ 8192 := by omega); refine (sf143 H (H.objs.length + 2) (H.objs.length + 1) (by omega) (by omega) (by omega) _ t _ [] .slnil (Nat.le_refl _) (by simp; omega) hs (by assumption) ⟨by simp, by simp⟩ (by simp) (by simp) (App.slnil _ _ _) (by intro e he; simp at he)).mono ?_; rintro r H1 ⟨es', v', ⟨x, rfl⟩, ho1, hg1, a1, hl1, hr1, hk1⟩; refine dn ?_)
    | (simp at ho1; refine awp_run (mu := mu0) tab_ok (by simp [ho1, a1.cells, a1.okc]; rfl) ?_)
    | refine ru ?_
    | (refine awp_if rfl (fun hb => ?_) (fun hb => ?_) <;> (try simp at hb) <;> try (exfalso; omega))
    | fail
  · exact ⟨_, by simp; rfl, (Gr.refl H).obj _, .tuple [.agg [.slnil], .int .i64 1], by simp, .slnil, by simp [packE, hb], rfl⟩
  · rename_i hb2
    have : 8192 < t.cnt := by omega
    exact ⟨_, by simp; rfl, (Gr.refl H).obj _, .tuple [.agg [.slnil], .int .i64 3], by simp, .slnil, by simp [packE, hb2, this], rfl⟩
  · rename_i hb2
    have : ¬ 8192 < t.cnt := by omega
    exact ⟨_, by simp; rfl, ⟨by simp, hg1.hi⟩, .tuple [.agg [cln H.objs.length H.hi.length v'], .int .i64 0], by simp, _, by simp [packE, hb2, this]; rfl, by rcases a1.is with ⟨rfl, _⟩ | rfl | ⟨k, _, rfl, _⟩ <;> simp⟩
theorem sh_104 (hB : LibOK W0) {N : Nat} (S : Sh W0 N) (hi : ∀ (t : Tr) (H : Hp), t.cnt ≤ N + 1 → t.good → SF Tryz.prog W0 147 [t.av] H fun r H' => H' = H ∧ r = .bool (isB t 6 && innerB [105] t)) : FormOK W0 104 6 (N + 1) := by
  intro t H hN hg
  obtain ⟨k, n, a, b, l, rfl⟩ := good_node hg
  have hkg := Tr.good_kids hg
  have hcl : Tr.cnts l ≤ N := by simp only [Tr.cnt] at hN; omega
  by_cases h74 : k = 74
  · subst h74; exact sh_104_74 hB S H hcl hg
  by_cases h75 : k = 75
  · subst h75; exact sh_104_75 hB S H hcl hg
  have h147 := hi _ H hN hg
  have e : innerB [105] (.node k n a b l) = true := by simp [innerB, Tr.kind, h74, h75]
  rw [e, Bool.and_true] at h147
  simp only [Tr.av] at h147 ⊢
  refine SF.pureLe (sf_start [2] 48 Tryz.func104 rfl rfl rfl (by decide) (by simp) ?_)
  repeat' first
    | refine aSq ?_ | refine aRt ?_ | refine aSk ?_ | refine aBl ?_ | refine tN ?_
    | (refine rg 6 ?_; refine tk 1 ?_; refine fc en147 ?_; refine SF.then h147 ?_; refine tk 1 ?_; refine dn ?_)
    | refine ru ?_
    | (refine awp_if rfl (fun hb => ?_) (fun hb => ?_) <;> (try simp at hb) <;> try (exfalso; omega))
    | fail
  all_goals (simp [retQ])
theorem shapes (hB : LibOK W0) : ∀ N, Sh W0 N
  | 0 => by
    refine ⟨?_, ?_, ?_, ?_, ?_, ?_⟩
    all_goals
      (intro t H hN hg
       obtain ⟨k, n, a, b, l, rfl⟩ := good_node hg
       simp [Tr.cnt] at hN)
  | N + 1 => by
    have S := shapes hB N
    exact ⟨fun t H => sf177 hB S.ty (fun k n a b l H h1 h2 => sf179 hB S.ty k n a b l H h1 h2) t H, sf178 hB S.ty S.ex, sh_146 hB S, sh_145 hB S, sh_176 hB S, sh_147 hB S⟩
theorem sf104 (hB : LibOK W0) (t : Tr) (H : Hp) (hg : t.good) : SF Tryz.prog W0 104 [t.av] H fun r H' => H' = H ∧ r = .bool (isB t 6) := by
  have S := shapes hB t.cnt
  exact sh_104 hB S (sh_147 hB S) t H (Nat.le_succ _) hg
theorem sf59 (hB : LibOK W0) (t : Tr) (H : Hp) (hg : t.good) : SF Tryz.prog W0 59 [t.av] H fun r H' => H' = H ∧ r = .bool (isB t 7) := by
  obtain ⟨k, n, a, b, l, rfl⟩ := good_node hg
  have hkg := Tr.good_kids hg
  have h102 := fun x y z H => sf102 (W0 := W0) (H := H) (k := k) (n := n) (a := a) (b := b) (l := l) (x := x) (y := y) (z := z)
  have h103 := sf103 (W0 := W0) (k := k) (n := n) (a := a) (b := b) (l := l) (m := 0) (H := H) (f := 104) (caps := []) (p := fun t => isB t 6) hkg.1 (Nat.zero_le _) en104 (fun t ht => sf104 hB t H (hkg.2 t ht))
  have hks : kidsB l [42, 100] = l.all (fun t => isB t 6) := by rw [kidsB_star]; simp [innerB]; rfl
  rw [List.drop_zero, ← hks] at h103
  clear hks
  simp only [Tr.av] at h102 h103 ⊢
  refine SF.pureLe (sf_start [2] 16 Tryz.func59 rfl rfl rfl (by decide) (by simp) ?_)
  repeat' first
    | refine aSq ?_ | refine aRt ?_
    | (refine rg 1 ?_; refine tk 5 ?_; (first | (refine te (fun hb => ?_) (fun hb => ?_) <;> (try simp at hb) <;> try (exfalso; omega)) | (refine tk 1 ?_)); all_goals (refine tk 1 ?_; (first | (refine fg en102 ?_; refine SF.then (h102 _ _ _ _) ?_) | (refine tk 1 ?_)); refine tk 1 ?_; (first | (refine te (fun hb => ?_) (fun hb => ?_) <;> (try simp at hb) <;> try (exfalso; omega)) | (refine tk 1 ?_)); all_goals (refine tk 1 ?_; (first | (refine fg en103 ?_; refine SF.then h103 ?_) | (refine tk 1 ?_)); refine tk 2 ?_; refine dn ?_)))
    | refine ru ?_
    | fail
  all_goals (clear h102 h103 hg hkg)
  all_goals first | (simp_all [retQ, bareT, is_7_80, is_7_else, beq0]; done) | (by_cases q1 : a = [] <;> by_cases q2 : b = [] <;> by_cases q3 : n = 0 <;> simp_all [retQ, bareT, is_7_80, is_7_else, beq0])
theorem sf35 (hB : LibOK W0) {t : Tr} {H : Hp} (hc : t.cnt ≤ 67108864) (hn : t.neat) : SF Tryz.prog W0 35 [t.av] H fun r H' => H' = H ∧ r = .int .i64 (checkE t 7) := by
  have hs := Tr.slim_of_neat t hn
  have h58 : SF Tryz.prog W0 58 [t.av, .fn 59 []] H fun r H' => H' = H ∧ r = .int .i64 (checkE t 7) := by
    have hen := en59
    refine SF.pureLe (sf_start [4] 25 Tryz.func58 rfl rfl rfl (by decide) (by simp) ?_)
    repeat' first
      | refine aSq ?_ | refine aRt ?_ | refine aSk ?_ | refine aBl ?_ | refine tN ?_ | refine tR ?_ | refine iR ?_
      | (refine rg 1 ?_; refine aops_take 1 (mu := mu0) tab_ok (by simp; rfl) ?_; refine fc en100 ?_; refine (sf100b hc hs).mono ?_; rintro r H1 ⟨rfl, c0, rfl, hok⟩; refine aops_take 6 (mu := mu0) tab_ok (by simp [hok]; rfl) ?_; refine dn ?_)
      | (refine rg 4 ?_; refine tk 1 ?_; refine fc en101 ?_; refine SF.then (sf101 _ _ _ (Nat.le_refl _) hc hs) ?_; refine tk 2 ?_; refine dn ?_)
      | (refine rg 6 ?_; refine tk 2 ?_; refine aops_val rfl rfl rfl rfl rfl (by assumption) (by simp; rfl) ?_; refine SF.then (sf59 hB _ _ ⟨hn, (packE_zero (by assumption)).1⟩) ?_; refine tk 2 ?_; refine dn ?_)
      | refine ru ?_
      | (refine awp_if rfl (fun hb => ?_) (fun hb => ?_) <;> (try simp at hb) <;> try (exfalso; omega))
      | fail
    · exact ⟨(Gr.refl _).obj _, .int .i64 (checkE t 7), by simp [checkE, hb], rfl⟩
    · rename_i hb1
      have h6 : 60 < t.deep := by omega
      exact ⟨(Gr.refl _).obj _, .int .i64 (checkE t 7), by simp [checkE, hb1, h6], rfl⟩
    · rename_i hb1 hb2
      have h6 : ¬ 60 < t.deep := by omega
      exact ⟨(Gr.refl _).obj _, .int .i64 (checkE t 7), by simp [checkE, hb1, hb, h6], rfl⟩
    · rename_i hb1 hb2
      have h6 : ¬ 60 < t.deep := by omega
      exact ⟨(Gr.refl _).obj _, .int .i64 (checkE t 7), by simp [checkE, hb1, hb, h6], rfl⟩
  refine SF.pureLe (sf_start [2] 5 Tryz.func35 rfl rfl rfl (by decide) (by simp) ?_)
  repeat' first
    | refine aSq ?_ | refine aRt ?_
    | (refine rg 1 ?_; refine tk 1 ?_; refine fc en58 ?_; refine SF.then h58 ?_; refine tk 1 ?_; refine dn ?_)
    | refine ru ?_
    | fail
  all_goals (simp [retQ])
end Go.Av
namespace Go.Av
open Go.Proofs
variable {W0 : World}
set_option maxRecDepth 10000
set_option maxHeartbeats 4000000
def errT (t : Tr) : Int := if checkE t 7 = 0 then (progW t.cnt t).E else checkE t 7
def linksR (t : Tr) : AV := .tuple [.sl 5 (lks (if errT t = 0 then (progW t.cnt t).L else [])) .shut, .int .i64 (errT t)]
def exportsR (t : Tr) : AV := .tuple [.sl 5 (lks (if errT t = 0 then (progW t.cnt t).X else [])) .shut, .int .i64 (errT t)]
theorem progR_tuple (t : Tr) : (∃ h : errT t = 0, progR t = .tuple [wkR (progW t.cnt t), .int .i64 0]) ∨ (errT t ≠ 0 ∧ ∃ v, progR t = .tuple [v, .int .i64 (errT t)]) := by
  unfold progR errT
  by_cases h : checkE t 7 = 0
  · simp only [h, if_true]
    by_cases h2 : (progW t.cnt t).E = 0
    · exact .inl ⟨h2, by rw [h2]⟩
    · exact .inr ⟨by simpa [h] using h2, _, rfl⟩
  · simp only [h, if_false]
    exact .inr ⟨by simpa using h, _, rfl⟩
theorem sf11 {l : List Lk} {o1 o2 : Own} {H : Hp} (hl : l.length ≤ 67108863) (hs : ∀ k ∈ l, k.at'.length ≤ 67108864 ∧ k.site.length ≤ 67108864 ∧ k.rest.length ≤ 67108864) : SF Tryz.prog W0 11 [.sl 5 (lks l) o1, .sl 5 (lks l) o2] H fun x H' => H' = H ∧ x = .bool true := by
  refine sf_start [4] 83 Tryz.func11 rfl rfl rfl (by decide) (by simp) ?_
  repeat' first
    | refine aSq ?_ | refine aSk ?_ | refine aBl ?_ | refine tN ?_
    | refine ru ?_
    | (refine awp_if rfl (fun hb => ?_) (fun hb => ?_) <;> (try simp at hb) <;> try (exfalso; omega))
    | fail
  refine awp_loop_inv (fun q st => ∃ (i : Nat), q = l.length - i ∧ i ≤ l.length ∧
    Sub st ⟨83, [(0, .sl 5 (lks l) o1), (1, .sl 5 (lks l) o2), (5, .int .i64 i)], H⟩) l.length
    ⟨0, by simp, by simp, sb⟩ ?_
  rintro q st ⟨i, rfl, hi, hs2⟩
  refine awp_sub hs2 ?_
  clear hs2 st
  repeat' first
    | refine aSq ?_ | refine aRt ?_ | refine aSk ?_ | refine aEx ?_ | refine aBl ?_ | refine tN ?_
    | (refine dr 6 [(0, true), (1, true), (2, true), (3, true), (4, true), (5, true), (6, true), (7, true), (8, true), (9, true), (10, false), (11, true), (12, true), (13, true), (14, true), (15, true), (16, true), (17, true), (18, true), (19, true), (20, true), (21, true), (22, true), (23, true), (24, true), (25, true), (26, true), (27, true), (28, true), (29, true), (30, true), (31, true), (32, true), (33, true), (34, true), (35, true), (36, true), (37, true), (38, true), (39, true), (40, true), (41, true), (42, true), (43, true), (44, true), (45, true), (46, true), (47, true), (48, true), (49, false), (50, true), (51, true), (52, true), (53, true), (54, true), (55, true), (56, true), (57, true), (58, true), (59, true), (60, true), (61, true), (62, true), (63, false), (64, true), (65, true)] [] ?_; refine da 10 fun _ => ?_; refine df en22 ?_; refine SF.then (sf22 (by first | exact (hs _ (List.getElem_mem (by assumption))).1 | exact (hs _ (List.getElem_mem (by assumption))).2.1)) ?_; refine ⟨.inr rfl, ?_⟩; refine da 1 fun _ => ?_; (first | (refine de (fun hb => ?_) (fun hb => ?_) <;> (try simp at hb) <;> try (exfalso; omega)) | (refine da 1 fun _ => ?_)); all_goals (refine da 12 fun _ => ?_; (first | (refine de (fun hb => ?_) (fun hb => ?_) <;> (try simp at hb) <;> try (exfalso; omega)) | (refine da 1 fun _ => ?_)); all_goals (refine da 12 fun _ => ?_; (first | (refine de (fun hb => ?_) (fun hb => ?_) <;> (try simp at hb) <;> try (exfalso; omega)) | (refine da 1 fun _ => ?_)); all_goals (refine da 10 fun _ => ?_; (first | (refine dg en22 ?_; refine SF.then (sf22 (by first | exact (hs _ (List.getElem_mem (by assumption))).1 | exact (hs _ (List.getElem_mem (by assumption))).2.1)) ?_; refine ⟨.inr rfl, ?_⟩) | (refine ds ?_)); refine da 2 fun _ => ?_; (first | (refine de (fun hb => ?_) (fun hb => ?_) <;> (try simp at hb) <;> try (exfalso; omega)) | (refine da 1 fun _ => ?_)); all_goals (refine da 10 fun _ => ?_; (first | (refine dg en23 ?_; refine SF.then (sf23 (hs _ (List.getElem_mem (by assumption))).2.2) ?_; refine ⟨.inr rfl, ?_⟩) | (refine ds ?_)); refine dl ?_)))))
    | refine ru ?_
    | (refine awp_if rfl (fun hb => ?_) (fun hb => ?_) <;> (try simp at hb) <;> try (exfalso; omega))
    | fail
  · exact ⟨l.length - (i + 1), by omega, i + 1, rfl, by omega, sb⟩
  · simp [retQ]
end Go.Av
