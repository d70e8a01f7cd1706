/-
  Go read by value: lemmas (part 20): M3, D19, M2.
-/
import Derived.Test.YtdeocbficanfaaaGreatDoorX18
import Derived.Test.YtdeocbficanfaaaGreatDoorX19
set_option linter.unusedVariables false
set_option linter.unusedSimpArgs false
set_option linter.unusedSectionVars false
namespace Go.Av
open Go.Lib
theorem decode_46 (l : Str) (j : Nat) (hj : j < (decodeL l).2) (h : l[j]? = some 46) : (decodeL l).1 = 46 := by
  have g : (ByteArray.get! ⟨l.toArray⟩ (0 + j)).toNat = 46 := by
    obtain ⟨hlt, he⟩ := List.getElem?_eq_some_iff.1 h
    rw [Nat.zero_add]
    simp [ByteArray.get!, hlt, he]
  unfold decodeL Utf8.decode at *
  simp only at *
  split at hj
  · rename_i hb
    have : j = 0 := by simpa using hj
    subst this
    rw [if_pos hb]; exact g
  · rename_i hb
    rw [if_neg hb]
    have j0 : j ≠ 0 := by rintro rfl; omega
    split at hj
    · rename_i h2
      simp only [Bool.and_eq_true, beq_iff_eq, decide_eq_true_eq] at h2
      split at hj <;> simp only at hj
      · have : j = 1 := by omega
        subst this; omega
      · omega
    · split at hj
      · rename_i h3
        simp only [Bool.and_eq_true, beq_iff_eq, decide_eq_true_eq] at h3
        split at hj <;> simp only at hj
        · have : j = 1 ∨ j = 2 := by omega
          rcases this with rfl | rfl <;> omega
        · omega
      · split at hj
        · rename_i h4
          simp only [Bool.and_eq_true, beq_iff_eq, decide_eq_true_eq] at h4
          split at hj <;> simp only at hj
          · have : j = 1 ∨ j = 2 ∨ j = 3 := by omega
            rcases this with rfl | rfl | rfl <;> omega
          · omega
        · simp only at hj; omega
theorem runes_46 : ∀ (n : Nat) (l : Str), l.length ≤ n → 46 ∈ l → 46 ∈ runes l
  | 0, l, h, hm => by have : l = [] := List.eq_nil_of_length_eq_zero (by omega); subst this; simp at hm
  | n + 1, l, h, hm => by
    have hne : l ≠ [] := List.ne_nil_of_mem hm
    have hw := decodeL_width l
    rw [runes_step l hne]
    obtain ⟨j, hj, he⟩ := List.mem_iff_getElem.1 hm
    rcases Nat.lt_or_ge j (decodeL l).2 with q | q
    · rw [decode_46 l j q (by rw [List.getElem?_eq_getElem hj, he])]; exact .head _
    · refine .tail _ (runes_46 n _ (by rw [List.length_drop]; omega) ?_)
      refine List.mem_iff_getElem.2 ⟨j - (decodeL l).2, by rw [List.length_drop]; omega, ?_⟩
      rw [List.getElem_drop]
      simpa [show (decodeL l).2 + (j - (decodeL l).2) = j from by omega] using he
theorem nameRs_46 : ∀ (f : Bool) (l : List Nat), nameRs f l = true → 46 ∉ l
  | _, [], _ => by simp
  | f, r :: l, h => by
    simp only [nameRs, Bool.and_eq_true] at h
    intro hm
    rcases List.mem_cons.1 hm with e | hm
    · subst e
      have := h.1
      simp [okR, cls] at this
    · exact nameRs_46 false l h.2 hm
theorem pieces_no : ∀ (acc l : Str), 46 ∉ l → pieces acc l = [acc ++ l]
  | acc, [], _ => by simp [pieces]
  | acc, c :: l, h => by
    simp only [List.mem_cons, not_or] at h
    simp only [pieces, if_neg (Ne.symm h.1)]
    rw [pieces_no _ l h.2]
    simp
theorem checkB_long {a : Str} (h : checkB a = true) : longB a = true := by
  have h0 := h
  unfold checkB nameB at h0
  simp only [Bool.and_eq_true, decide_eq_true_eq] at h0
  have hno : 46 ∉ a := fun hm => nameRs_46 _ _ h0.1.2.2 (runes_46 _ _ (Nat.le_refl _) hm)
  unfold longB
  rw [pieces_no [] a hno]
  simp [h]
  omega
theorem checkB_len {a : Str} (h : checkB a = true) : a.length ≤ 128 := longB_len (checkB_long h)
theorem kids0 {l : List Tr} (h : kidsB l [] = true) : l = [] := by cases l <;> simp [kidsB] at h ⊢
theorem kids1 {l : List Tr} {c : UInt8} (hc : plainB [c] = true) (h : kidsB l [c] = true) : ∃ t, l = [t] ∧ isB t (catB c) = true := by
  obtain ⟨h1, h2⟩ := (kidsB_plain [c] l hc).1 h
  match l, h1 with
  | [t], _ => exact ⟨t, rfl, h2 0 (by simp) (by simp)⟩
theorem kids2 {l : List Tr} {c d : UInt8} (hc : plainB [c, d] = true) (h : kidsB l [c, d] = true) : ∃ t u, l = [t, u] ∧ isB t (catB c) = true ∧ isB u (catB d) = true := by
  obtain ⟨h1, h2⟩ := (kidsB_plain [c, d] l hc).1 h
  match l, h1 with
  | [t, u], _ => exact ⟨t, u, rfl, h2 0 (by simp) (by simp), h2 1 (by simp) (by simp)⟩
theorem kids3 {l : List Tr} {c d e : UInt8} (hc : plainB [c, d, e] = true) (h : kidsB l [c, d, e] = true) : ∃ t u v, l = [t, u, v] ∧ isB t (catB c) = true ∧ isB u (catB d) = true ∧ isB v (catB e) = true := by
  obtain ⟨h1, h2⟩ := (kidsB_plain [c, d, e] l hc).1 h
  match l, h1 with
  | [t, u, v], _ => exact ⟨t, u, v, rfl, h2 0 (by simp) (by simp), h2 1 (by simp) (by simp), h2 2 (by simp) (by simp)⟩
theorem kidsC {l : List Tr} (h : kidsB l [67] = true) : ∀ t ∈ l, isB t 8 = true := by
  rw [kidsB_C] at h
  simp only [Bool.and_eq_true, List.all_eq_true] at h
  exact h.2.1
theorem cnt_mem {t : Tr} : ∀ {l : List Tr}, t ∈ l → t.cnt ≤ Tr.cnts l
  | u :: l, h => by
    simp only [Tr.cnts]
    rcases List.mem_cons.1 h with rfl | h
    · omega
    · have := cnt_mem h; omega
theorem ty_of : ∀ (N : Nat) (t : Tr), t.cnt ≤ N → (isB t 1 = true → TyW t) ∧ (isB t 8 = true → TyW t ∧ t.kind = 8)
  | _, .none, _ => ⟨fun h => by simp [isB] at h, fun h => by simp [isB] at h⟩
  | 0, .node k n a b l, h => by simp [Tr.cnt] at h
  | N + 1, .node k n a b l, hN => by
    simp only [Tr.cnt] at hN
    have ih : ∀ t ∈ l, (isB t 1 = true → TyW t) ∧ (isB t 8 = true → TyW t ∧ t.kind = 8) := fun t ht => ty_of N t (by have := cnt_mem ht; omega)
    refine ⟨fun h => ?_, fun h => ?_⟩
    · by_cases h1 : k = 1
      · subst h1; rw [is_1_1] at h; simp only [Bool.and_eq_true, decide_eq_true_eq] at h; obtain rfl := kids0 h.2.2.2; exact .mk (by simp) (by simp [h.1]) (by simp) (by decide)
      by_cases h2 : k = 2
      · subst h2; rw [is_1_2] at h; simp only [Bool.and_eq_true, decide_eq_true_eq] at h; obtain rfl := kids0 h.2.2.2; exact .mk (by simp) (by simp [h.1]) (by simp) (by decide)
      by_cases h3 : k = 3
      · subst h3; rw [is_1_3] at h; simp only [Bool.and_eq_true, decide_eq_true_eq] at h; obtain rfl := kids0 h.2.2.2; exact .mk (by simp) (by simp [h.1]) (by simp) (by decide)
      by_cases h4 : k = 4
      · subst h4; rw [is_1_4] at h; simp only [Bool.and_eq_true, decide_eq_true_eq] at h; obtain rfl := kids0 h.2.2.2; exact .mk (fun _ => h.1) (longB_len h.1) (by simp) (by decide)
      by_cases h5 : k = 5
      · subst h5; rw [is_1_5] at h; simp only [Bool.and_eq_true, decide_eq_true_eq] at h; obtain ⟨t, u, rfl, g1, g2⟩ := kids2 (by decide) h.2.2.2
        exact .mk (by simp) (by simp [h.1]) (by simp only [List.mem_cons, List.not_mem_nil, or_false]; rintro x (rfl | rfl); exact (ih _ (by simp)).1 g1; exact (ih _ (by simp)).1 g2) (by decide)
      by_cases h6 : k = 6
      · subst h6; rw [is_1_6] at h; simp only [Bool.and_eq_true, decide_eq_true_eq] at h; obtain ⟨t, u, rfl, g1, g2⟩ := kids2 (by decide) h.2.2.2
        exact .mk (by simp) (by simp [h.1]) (by simp only [List.mem_cons, List.not_mem_nil, or_false]; rintro x (rfl | rfl); exact (ih _ (by simp)).1 g1; exact (ih _ (by simp)).1 g2) (by decide)
      by_cases h7 : k = 7
      · subst h7; rw [is_1_7] at h; simp only [Bool.and_eq_true, decide_eq_true_eq] at h; exact .mk (by simp) (checkB_len h.1) (fun t ht => ((ih t ht).2 (kidsC h.2.2.2 t ht)).1) (by decide)
      rw [is_1_else n a b l h1 h2 h3 h4 h5 h6 h7] at h; cases h
    · by_cases h8 : k = 8
      · subst h8; rw [is_8_8] at h; simp only [Bool.and_eq_true, decide_eq_true_eq] at h; obtain ⟨t, rfl, g⟩ := kids1 (by decide) h.2.2.2
        exact ⟨.mk (by simp) (checkB_len h.1) (by simp only [List.mem_singleton]; rintro x rfl; exact (ih _ (by simp)).1 g) (by decide), rfl⟩
      · rw [is_8_else n a b l h8] at h; cases h
theorem ty_ok {t : Tr} (h : isB t 1 = true) : TyW t := (ty_of _ t (Nat.le_refl _)).1 h
theorem con_ok {t : Tr} (h : isB t 8 = true) : TyW t ∧ t.kind = 8 := (ty_of _ t (Nat.le_refl _)).2 h
theorem kidsA {t : Tr} {l : List Tr} (h : kidsB (t :: l) [101, 65] = true) : isB t 2 = true ∧ ∀ x ∈ l, isB x 9 = true := by
  rw [show kidsB (t :: l) [101, 65] = (isB t 2 && kidsB l [65]) from by simp [kidsB, catB], kidsB_A] at h
  simp only [Bool.and_eq_true, List.all_eq_true] at h
  exact ⟨h.1, h.2.2⟩
theorem kidsTA {t u : Tr} {l : List Tr} (h : kidsB (t :: u :: l) [101, 116, 65] = true) : isB t 2 = true ∧ isB u 1 = true ∧ ∀ x ∈ l, isB x 9 = true := by
  rw [show kidsB (t :: u :: l) [101, 116, 65] = (isB t 2 && (isB u 1 && kidsB l [65])) from by simp [kidsB, catB], kidsB_A] at h
  simp only [Bool.and_eq_true, List.all_eq_true] at h
  exact ⟨h.1, h.2.1, h.2.2.2⟩
theorem ex_of : ∀ (N : Nat) (t : Tr), t.cnt ≤ N → (isB t 2 = true → ExW t) ∧ (isB t 9 = true → ExW t)
  | _, .none, _ => ⟨fun h => by simp [isB] at h, fun h => by simp [isB] at h⟩
  | 0, .node k n a b l, h => by simp [Tr.cnt] at h
  | N + 1, .node k n a b l, hN => by
    simp only [Tr.cnt] at hN
    have ih : ∀ t ∈ l, (isB t 2 = true → ExW t) ∧ (isB t 9 = true → ExW t) := fun t ht => ex_of N t (by have := cnt_mem ht; omega)
    have leaf : ∀ {k : Int}, l = [] → k ≠ 23 → k ≠ 24 → k ≠ 29 → k ≠ 33 → k ≠ 34 → refK k = false → ExW (.node k n a b l) := fun e h1 h2 h3 h4 h5 h6 => .other h1 h2 h3 h4 h5 (by rw [e]; simp) h6
    have one : ∀ {k : Int}, kidsB l [101] = true → k ≠ 23 → k ≠ 24 → k ≠ 29 → k ≠ 33 → k ≠ 34 → refK k = false → ExW (.node k n a b l) := fun e h1 h2 h3 h4 h5 h6 => .other h1 h2 h3 h4 h5 (by
      obtain ⟨t, rfl, g⟩ := kids1 (by decide) e
      simp only [List.mem_singleton]; rintro x rfl; exact (ih _ (by simp)).1 g) h6
    have two : ∀ {k : Int}, kidsB l [101, 101] = true → k ≠ 23 → k ≠ 24 → k ≠ 29 → k ≠ 33 → k ≠ 34 → refK k = false → ExW (.node k n a b l) := fun e h1 h2 h3 h4 h5 h6 => .other h1 h2 h3 h4 h5 (by
      obtain ⟨t, u, rfl, g1, g2⟩ := kids2 (by decide) e
      simp only [List.mem_cons, List.not_mem_nil, or_false]; rintro x (rfl | rfl); exact (ih _ (by simp)).1 g1; exact (ih _ (by simp)).1 g2) h6
    refine ⟨fun h => ?_, fun h => ?_⟩
    · by_cases h20 : k = 20
      · subst h20; rw [is_2_20] at h; simp only [Bool.and_eq_true, decide_eq_true_eq] at h; exact leaf (kids0 h.2.2.2) (by decide) (by decide) (by decide) (by decide) (by decide) (by decide)
      by_cases h21 : k = 21
      · subst h21; rw [is_2_21] at h; simp only [Bool.and_eq_true, decide_eq_true_eq] at h; exact leaf (kids0 h.2.2.2) (by decide) (by decide) (by decide) (by decide) (by decide) (by decide)
      by_cases h22 : k = 22
      · subst h22; rw [is_2_22] at h; simp only [Bool.and_eq_true, decide_eq_true_eq] at h; exact leaf (kids0 h.2.2.2) (by decide) (by decide) (by decide) (by decide) (by decide) (by decide)
      by_cases h23 : k = 23
      · subst h23; rw [is_2_23] at h; simp only [Bool.and_eq_true, decide_eq_true_eq] at h; obtain rfl := kids0 h.2.2.2; exact .var h.1
      by_cases h24 : k = 24
      · subst h24; rw [is_2_24] at h; simp only [Bool.and_eq_true, decide_eq_true_eq] at h; obtain ⟨t, u, rfl, g1, g2⟩ := kids2 (by decide) h.2.2.2; exact .lam (checkB_len h.1) (ty_ok g1) ((ih _ (by simp)).1 g2)
      by_cases h25 : k = 25
      · subst h25; rw [is_2_25] at h; simp only [Bool.and_eq_true, decide_eq_true_eq] at h; exact two h.2.2.2 (by decide) (by decide) (by decide) (by decide) (by decide) (by decide)
      by_cases h26 : k = 26
      · subst h26; rw [is_2_26] at h; simp only [Bool.and_eq_true, decide_eq_true_eq] at h; exact two h.2.2.2 (by decide) (by decide) (by decide) (by decide) (by decide) (by decide)
      by_cases h27 : k = 27
      · subst h27; rw [is_2_27] at h; simp only [Bool.and_eq_true, decide_eq_true_eq] at h; exact one h.2.2.2 (by decide) (by decide) (by decide) (by decide) (by decide) (by decide)
      by_cases h28 : k = 28
      · subst h28; rw [is_2_28] at h; simp only [Bool.and_eq_true, decide_eq_true_eq] at h; exact one h.2.2.2 (by decide) (by decide) (by decide) (by decide) (by decide) (by decide)
      by_cases h29 : k = 29
      · subst h29; rw [is_2_29] at h; simp only [Bool.and_eq_true, decide_eq_true_eq] at h; obtain ⟨t, u, rfl, g1, g2⟩ := kids2 (by decide) h.2.2.2; exact .bnd (checkB_len h.1) ((ih _ (by simp)).1 g1) ((ih _ (by simp)).1 g2)
      by_cases h30 : k = 30
      · subst h30; rw [is_2_30] at h; simp only [Bool.and_eq_true, decide_eq_true_eq] at h; obtain ⟨t, u, v, rfl, g1, g2, g3⟩ := kids3 (by decide) h.2.2.2
        exact .other (by decide) (by decide) (by decide) (by decide) (by decide) (by simp only [List.mem_cons, List.not_mem_nil, or_false]; rintro x (rfl | rfl | rfl); exact (ih _ (by simp)).1 g1; exact (ih _ (by simp)).1 g2; exact (ih _ (by simp)).1 g3) (by decide)
      by_cases h31 : k = 31
      · subst h31; rw [is_2_31] at h; simp only [Bool.and_eq_true, decide_eq_true_eq] at h; exact two h.2.2.2 (by decide) (by decide) (by decide) (by decide) (by decide) (by decide)
      by_cases h32 : k = 32
      · subst h32; rw [is_2_32] at h; simp only [Bool.and_eq_true, decide_eq_true_eq] at h
        cases l with
        | nil => simp [kidsB] at h
        | cons t l =>
          obtain ⟨g1, g2⟩ := kidsA h.2.2.2
          exact .other (by decide) (by decide) (by decide) (by decide) (by decide) (fun x hx => by
            rcases List.mem_cons.1 hx with rfl | hx
            · exact (ih _ (by simp)).1 g1
            · exact (ih _ (by simp [hx])).2 (g2 x hx)) (by decide)
      by_cases h33 : k = 33
      · subst h33; rw [is_2_33] at h; simp only [Bool.and_eq_true, decide_eq_true_eq] at h
        match l, h.2.2.2 with
        | [], h => simp [kidsB] at h
        | [t], h => simp [kidsB] at h
        | t :: u :: l, h =>
          obtain ⟨g1, g2, g3⟩ := kidsTA h
          exact .fold ((ih _ (by simp)).1 g1) (ty_ok g2) (fun x hx => (ih _ (by simp [hx])).2 (g3 x hx))
      rw [is_2_else n a b l h20 h21 h22 h23 h24 h25 h26 h27 h28 h29 h30 h31 h32 h33] at h; cases h
    · by_cases h34 : k = 34
      · subst h34; rw [is_9_34] at h; simp only [Bool.and_eq_true, decide_eq_true_eq] at h; obtain ⟨t, rfl, g⟩ := kids1 (by decide) h.2.2.2; exact .arm (checkB_len h.2.1) ((ih _ (by simp)).1 g)
      · rw [is_9_else n a b l h34] at h; cases h
theorem ex_ok {t : Tr} (h : isB t 2 = true) : ExW t := (ex_of _ t (Nat.le_refl _)).1 h
theorem sg_of : ∀ (N : Nat) (t : Tr), t.cnt ≤ N → (isB t 4 = true → SgW t) ∧ (isB t 5 = true → SpW t)
  | _, .none, _ => ⟨fun h => by simp [isB] at h, fun h => by simp [isB] at h⟩
  | 0, .node k n a b l, h => by simp [Tr.cnt] at h
  | N + 1, .node k n a b l, hN => by
    simp only [Tr.cnt] at hN
    have ih : ∀ t ∈ l, (isB t 4 = true → SgW t) ∧ (isB t 5 = true → SpW t) := fun t ht => sg_of N t (by have := cnt_mem ht; omega)
    refine ⟨fun h => ?_, fun h => ?_⟩
    · by_cases h50 : k = 50
      · subst h50; rw [is_4_50] at h; simp only [Bool.and_eq_true, decide_eq_true_eq, kidsB_star, List.all_eq_true] at h
        exact .body (fun t ht => (ih t ht).2 (h.2.2.2 t ht).1)
      by_cases h51 : k = 51
      · subst h51; rw [is_4_51] at h; simp only [Bool.and_eq_true, decide_eq_true_eq] at h; obtain rfl := kids0 h.2.2.2; exact .name (checkB_long h.1)
      by_cases h52 : k = 52
      · subst h52; rw [is_4_52] at h; simp only [Bool.and_eq_true, decide_eq_true_eq] at h; obtain ⟨t, u, rfl, g1, g2⟩ := kids2 (by decide) h.2.2.2; exact .wh ((ih _ (by simp)).1 g1) (ty_ok g2)
      rw [is_4_else n a b l h50 h51 h52] at h; cases h
    · by_cases h60 : k = 60
      · subst h60; rw [is_5_60] at h; simp only [Bool.and_eq_true, decide_eq_true_eq] at h; obtain ⟨t, rfl, g⟩ := kids1 (by decide) h.2.2.2; exact .val (checkB_len h.1) (ty_ok g)
      by_cases h61 : k = 61
      · subst h61; rw [is_5_61] at h; simp only [Bool.or_eq_true, Bool.and_eq_true, decide_eq_true_eq] at h
        rcases h with h | h
        · obtain ⟨t, rfl, g⟩ := kids1 (by decide) h.2.2.2; exact .typ1 (checkB_len h.1) (ty_ok g)
        · obtain rfl := kids0 h.2.2.2; exact .typ0 (checkB_len h.1)
      by_cases h62 : k = 62
      · subst h62; rw [is_5_62] at h; simp only [Bool.and_eq_true, decide_eq_true_eq] at h
        have hc := kidsC h.2.2.2
        exact .data (fun t ht => (con_ok (hc t ht)).2) (.mk (by simp) (checkB_len h.1) (fun t ht => (con_ok (hc t ht)).1) (by decide))
      by_cases h63 : k = 63
      · subst h63; rw [is_5_63] at h; simp only [Bool.and_eq_true, decide_eq_true_eq] at h; obtain ⟨t, rfl, g⟩ := kids1 (by decide) h.2.2.2; exact .str (checkB_len h.1) ((ih _ (by simp)).1 g)
      by_cases h64 : k = 64
      · subst h64; rw [is_5_64] at h; simp only [Bool.and_eq_true, decide_eq_true_eq] at h; obtain ⟨t, rfl, g⟩ := kids1 (by decide) h.2.2.2; exact .inc ((ih _ (by simp)).1 g)
      by_cases h65 : k = 65
      · subst h65; rw [is_5_65] at h; simp only [Bool.and_eq_true, decide_eq_true_eq] at h; obtain rfl := kids0 h.2.2.2; exact .share
      rw [is_5_else n a b l h60 h61 h62 h63 h64 h65] at h; cases h
theorem sg_ok {t : Tr} (h : isB t 4 = true) : SgW t := (sg_of _ t (Nat.le_refl _)).1 h
theorem md_of : ∀ (N : Nat) (t : Tr), t.cnt ≤ N → (isB t 3 = true → MdW t) ∧ (isB t 6 = true → DcW t)
  | _, .none, _ => ⟨fun h => by simp [isB] at h, fun h => by simp [isB] at h⟩
  | 0, .node k n a b l, h => by simp [Tr.cnt] at h
  | N + 1, .node k n a b l, hN => by
    simp only [Tr.cnt] at hN
    have ih : ∀ t ∈ l, (isB t 3 = true → MdW t) ∧ (isB t 6 = true → DcW t) := fun t ht => md_of N t (by have := cnt_mem ht; omega)
    refine ⟨fun h => ?_, fun h => ?_⟩
    · by_cases h40 : k = 40
      · subst h40; rw [is_3_40] at h; simp only [Bool.and_eq_true, decide_eq_true_eq, kidsB_star, List.all_eq_true] at h
        exact .body (fun t ht => (ih t ht).2 (h.2.2.2 t ht).1)
      by_cases h41 : k = 41
      · subst h41; rw [is_3_41] at h; simp only [Bool.and_eq_true, decide_eq_true_eq] at h; obtain rfl := kids0 h.2.2.2; exact .path h.1
      by_cases h42 : k = 42
      · subst h42; rw [is_3_42] at h; simp only [Bool.and_eq_true, decide_eq_true_eq] at h; obtain ⟨t, rfl, g⟩ := kids1 (by decide) h.2.2.2; exact .app (checkB_long h.1) ((ih _ (by simp)).1 g)
      by_cases h43 : k = 43
      · subst h43; rw [is_3_43] at h; simp only [Bool.and_eq_true, decide_eq_true_eq] at h; obtain ⟨t, u, rfl, g1, g2⟩ := kids2 (by decide) h.2.2.2; exact .sealM ((ih _ (by simp)).1 g1) (sg_ok g2)
      rw [is_3_else n a b l h40 h41 h42 h43] at h; cases h
    · by_cases h70 : k = 70
      · subst h70; rw [is_6_70] at h; simp only [Bool.or_eq_true, Bool.and_eq_true, decide_eq_true_eq] at h
        rcases h with h | h
        · obtain ⟨t, rfl, g⟩ := kids1 (by decide) h.2.2.2; exact .val1 (checkB_len h.1) (ex_ok g)
        · obtain ⟨t, u, rfl, g1, g2⟩ := kids2 (by decide) h.2.2.2; exact .val2 (checkB_len h.1) (ty_ok g1) (ex_ok g2)
      by_cases h71 : k = 71
      · subst h71; rw [is_6_71] at h; simp only [Bool.and_eq_true, decide_eq_true_eq] at h; obtain ⟨t, rfl, g⟩ := kids1 (by decide) h.2.2.2; exact .typ (checkB_len h.1) (ty_ok g)
      by_cases h72 : k = 72
      · subst h72; rw [is_6_72] at h; simp only [Bool.and_eq_true, decide_eq_true_eq] at h
        have hc := kidsC h.2.2.2
        exact .data (fun t ht => (con_ok (hc t ht)).2) (.mk (by simp) (checkB_len h.1) (fun t ht => (con_ok (hc t ht)).1) (by decide))
      by_cases h73 : k = 73
      · subst h73; rw [is_6_73] at h; simp only [Bool.and_eq_true, decide_eq_true_eq] at h; obtain ⟨t, rfl, g⟩ := kids1 (by decide) h.2.2.2; exact .str (checkB_len h.1) ((ih _ (by simp)).1 g)
      by_cases h74 : k = 74
      · subst h74; rw [is_6_74] at h; simp only [Bool.and_eq_true, decide_eq_true_eq] at h; obtain ⟨t, rfl, g⟩ := kids1 (by decide) h.2.2.2; exact .sg (checkB_len h.1) (sg_ok g)
      by_cases h75 : k = 75
      · subst h75; rw [is_6_75] at h; simp only [Bool.and_eq_true, decide_eq_true_eq] at h; obtain ⟨t, u, rfl, g1, g2⟩ := kids2 (by decide) h.2.2.2; exact .ftor (checkB_len h.1) (checkB_len h.2.1) (sg_ok g1) ((ih _ (by simp)).1 g2)
      by_cases h76 : k = 76
      · subst h76; rw [is_6_76] at h; simp only [Bool.and_eq_true, decide_eq_true_eq] at h; obtain rfl := kids0 h.2.2.2; exact .opn h.1
      by_cases h77 : k = 77
      · subst h77; rw [is_6_77] at h; simp only [Bool.and_eq_true, decide_eq_true_eq] at h; obtain rfl := kids0 h.2.2.2; exact .inc h.1
      rw [is_6_else n a b l h70 h71 h72 h73 h74 h75 h76 h77] at h; cases h
theorem pr_ok {t : Tr} (h : isB t 7 = true) : ∃ n a b l, t = .node 80 n a b l ∧ ∀ x ∈ l, DcW x := by
  cases t with
  | none => simp [isB] at h
  | node k n a b l =>
    by_cases h80 : k = 80
    · subst h80; rw [is_7_80] at h; simp only [Bool.and_eq_true, decide_eq_true_eq, kidsB_star, List.all_eq_true] at h
      exact ⟨n, a, b, l, rfl, fun x hx => (md_of _ x (Nat.le_refl _)).2 (h.2.2.2 x hx).1⟩
    · rw [is_7_else n a b l h80] at h; cases h
end Go.Av
namespace Go.Av
open Go.Proofs
variable {W0 : World}
set_option maxRecDepth 10000
set_option maxHeartbeats 4000000
def checkE (t : Tr) (c : Int) : Int := if packE t ≠ 0 then packE t else if 60 < t.deep then 7 else if isB t c then 0 else 16
theorem packE_zero {t : Tr} (h : packE t = 0) : t.hole = false ∧ t.cnt ≤ 8192 := by
  unfold packE at h
  split at h
  · cases h
  · rename_i h1
    split at h
    · cases h
    · exact ⟨by simpa using h1, by omega⟩
end Go.Av
namespace Go.Av
theorem sortS_perm (l : List Str) : (sortS l).Perm l := List.mergeSort_perm ..
theorem sortS_le (l : List Str) : (sortS l).Pairwise (· ≤ ·) := by
  have := List.pairwise_mergeSort (le := fun x y : Str => decide (x ≤ y)) (fun a b c h1 h2 => by simp only [decide_eq_true_eq] at *; exact List.le_trans h1 h2) (fun a b => by simp only [Bool.or_eq_true, decide_eq_true_eq]; exact List.le_total a b) l
  exact this.imp fun h => by simpa using h
theorem sortS_lt {l : List Str} (h : l.Nodup) : (sortS l).Pairwise (· < ·) := by
  have hn : (sortS l).Nodup := (sortS_perm l).nodup_iff.2 h
  rw [List.nodup_iff_pairwise_ne] at hn
  refine ((sortS_le l).and hn).imp fun {a b} ⟨h1, h2⟩ => ?_
  rcases List.le_iff_lt_or_eq.1 h1 with h | h
  · exact h
  · exact absurd h h2
theorem sortS_len (l : List Str) : (sortS l).length = l.length := by simp [sortS]
end Go.Av
