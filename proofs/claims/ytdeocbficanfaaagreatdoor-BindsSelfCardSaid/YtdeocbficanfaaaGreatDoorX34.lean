/-
  Go read by value: lemmas (part 34): S1, E4, D54, D50, D51, D52.
-/
import Derived.Shelf.Spec.SlicesGrow
import Derived.Shelf.Strings.Cut
import Derived.Test.YtdeocbficanfaaaGreatDoorProg
import Derived.Test.YtdeocbficanfaaaGreatDoorX18
import Derived.Test.YtdeocbficanfaaaGreatDoorX21
import Derived.Test.YtdeocbficanfaaaGreatDoorX22
set_option linter.unusedVariables false
set_option linter.unusedSimpArgs false
set_option linter.unusedSectionVars false
namespace Go.Proofs
open Go.Shelf
set_option maxHeartbeats 4000000
def Tryz.growI_ren : Go.Shelf.Ren := ⟨fun | 4 => 128 | n => n, fun | 22 => 33 | 25 => 3 | 3 => 3 | 4 => 4 | 9 => 9 | 20 => 20 | 0 => 0 | n => n, fun n => n⟩
theorem Tryz.growI : Lays8.n4 Tryz.prog Tryz.growI_ren := {
  mixed := by kernel_rfl
  f4 := Exists.intro "slices.Grow[[]int,int]" ⟨by decide, Tryz.func128.trans (congrArg some (by kernel_rfl))⟩
  t0 := Tryz.underlying0
  a0 := Tryz.isAgg0
  z0 := Tryz.sizeOf0
  v0 := Tryz.zeroValue0
  t3 := Tryz.underlying3
  a3 := Tryz.isAgg3
  z3 := Tryz.sizeOf3
  v3 := Tryz.zeroValue3
  t4 := Tryz.underlying4
  a4 := Tryz.isAgg4
  z4 := Tryz.sizeOf4
  v4 := Tryz.zeroValue4
  t9 := Tryz.underlying9
  a9 := Tryz.isAgg9
  z9 := Tryz.sizeOf9
  v9 := Tryz.zeroValue9
  t20 := Tryz.underlying20
  a20 := Tryz.isAgg20
  z20 := Tryz.sizeOf20
  v20 := Tryz.zeroValue20
  t22 := Tryz.underlying33
  a22 := Tryz.isAgg33
  z22 := Tryz.sizeOf33
  v22 := Tryz.zeroValue33 }
def Tryz.lays145_ren : Go.Shelf.Ren := ⟨fun | 145 => 29 | 220 => 49 | 219 => 94 | 217 => 129 | 225 => 130 | 224 => 131 | 267 => 132 | 266 => 166 | 314 => 167 | n => n, fun | 9 => 9 | 4 => 4 | 59 => 69 | 3 => 3 | 5 => 5 | 46 => 185 | 146 => 217 | 51 => 216 | n => n, fun | 1 => 0 | n => n⟩
theorem Tryz.lays145 : Go.Proofs.Lays.n145 Tryz.prog Tryz.lays145_ren := {
  mixed := by kernel_rfl
  f145 := Tryz.func29.trans (congrArg some (by kernel_rfl))
  f217 := Tryz.func129.trans (congrArg some (by kernel_rfl))
  f219 := Tryz.func94.trans (congrArg some (by kernel_rfl))
  f220 := Tryz.func49.trans (congrArg some (by kernel_rfl))
  f224 := Tryz.func131.trans (congrArg some (by kernel_rfl))
  f225 := Tryz.func130.trans (congrArg some (by kernel_rfl))
  f266 := Tryz.func166.trans (congrArg some (by kernel_rfl))
  f267 := Tryz.func132.trans (congrArg some (by kernel_rfl))
  f314 := Tryz.func167.trans (congrArg some (by kernel_rfl))
  t3 := Tryz.underlying3
  a3 := Tryz.isAgg3
  z3 := Tryz.sizeOf3
  v3 := Tryz.zeroValue3
  t4 := Tryz.underlying4
  a4 := Tryz.isAgg4
  z4 := Tryz.sizeOf4
  v4 := Tryz.zeroValue4
  t5 := Tryz.underlying5
  a5 := Tryz.isAgg5
  z5 := Tryz.sizeOf5
  v5 := Tryz.zeroValue5
  t9 := Tryz.underlying9
  a9 := Tryz.isAgg9
  z9 := Tryz.sizeOf9
  v9 := Tryz.zeroValue9
  t46 := Tryz.underlying185
  a46 := Tryz.isAgg185
  z46 := Tryz.sizeOf185
  v46 := Tryz.zeroValue185
  t51 := Tryz.underlying216
  a51 := Tryz.isAgg216
  z51 := Tryz.sizeOf216
  v51 := Tryz.zeroValue216
  t59 := Tryz.underlying69
  a59 := Tryz.isAgg69
  z59 := Tryz.sizeOf69
  v59 := Tryz.zeroValue69
  t146 := Tryz.underlying217
  a146 := Tryz.isAgg217
  z146 := Tryz.sizeOf217
  v146 := Tryz.zeroValue217
  g1 := by kernel_rfl }
end Go.Proofs
namespace Go.Av
open Go.Proofs
open Go.RowKit (Below)
variable {W0 : World}
set_option maxRecDepth 10000
set_option maxHeartbeats 4000000
theorem drewN_eq (w : World) : ∀ n, ∃ k, w.drewN n = { w with drawn := k }
  | 0 => ⟨w.drawn, rfl⟩
  | n + 1 => ⟨_, rfl⟩
theorem lib29 (hB : Base W0) (s : Str) (H : Hp) (hs : s.length ≤ 67108863) : SF Tryz.prog W0 29 [.str s, .str [46]] H fun r H' => H' = H ∧ ∃ a b c, r = .tuple [.str a, .str b, .bool c] := by
  intro g w vs inv har
  obtain ⟨v, u, rfl, hv, hu⟩ := AR.two har
  cases hv; cases hu
  obtain ⟨m, hm⟩ := hB.maxlen
  have hm' : w.cell? ⟨0, 0, none⟩ = some (.int .i64 m) := by rw [cell_heap (inv.base 0 (cell_lt hm))]; exact hm
  have c := Any.strings_Cut Tryz.lays145 ⟨s.toArray⟩ ⟨[46].toArray⟩ m w (by show s.toArray.size < _; simp; omega) hm'
  refine c.mono ?_
  rintro e w' ⟨rfl, n, rfl⟩
  obtain ⟨k, hk⟩ := drewN_eq w n
  rw [hk]
  obtain ⟨i1, e1⟩ := inv.drawn k
  exact ⟨_, g, _, H, rfl, ⟨rfl, _, _, _, rfl⟩, e1, i1, _, rfl, _, _, rfl, rfl, _, _, rfl, rfl, _, _, rfl, rfl, rfl⟩
theorem lib128 {n : Nat} {H : Hp} (hn : n ≤ 67108864) : SF Tryz.prog W0 128 [.slnil, .int .i64 n] H fun r H' => (n = 0 ∧ r = .slnil ∧ H' = H) ∨ (0 < n ∧ r = .sl 1 [] (.tok H.hi.length) ∧ H' = { H with hi := H.hi ++ [0] }) := by
  intro g w vs inv har
  obtain ⟨v, u, rfl, hv, hu⟩ := AR.two har
  cases hv; cases hu
  by_cases h0 : n = 0
  · subst h0
    refine (Any8.slices_Grow_room Tryz.growI none 0 0 0 w (by omega) (by omega) (by omega) (by omega)).mono ?_
    rintro e w' ⟨rfl, rfl⟩
    exact ⟨_, g, .slnil, H, rfl, .inl ⟨rfl, rfl, rfl⟩, .refl _ _, inv, rfl⟩
  · obtain ⟨ti, h1, h2, h3, h4, h5, h6⟩ := (tab_ok 3 _ tab3).info
    have hs1 : ti.size = 1 := h2
    have hbyt : n * ti.bytes ≤ 67108864 * 1048576 := Nat.mul_le_mul hn h3
    refine (Any8.slices_Grow_grow Tryz.growI ti _ h1 h4 (by omega) none 0 0 n [] w (by omega) (by omega) (by rw [Nat.zero_add]; omega) (by omega) (by simp) (by simp) (by simp)).mono ?_
    rintro e w' ⟨rfl, rfl⟩
    simp only [Nat.zero_add]
    have hcap := grownCap_ge w n 0 (Tryz.growI_ren.t 25)
    generalize hc : grownCap w n 0 (Tryz.growI_ren.t 25) = cap at hcap ⊢
    obtain ⟨i1, e1⟩ := inv.drawn (w.drawn + 1)
    obtain ⟨i2, e2⟩ := WInv.tokNew (cs := ([] : List Value).toArray ++ Builtin.zeroCells (Value.int .i64 0).cells (n - 0) ++ Builtin.zeroCells (Value.int .i64 0).cells (cap - n)) (Ty := Tryz.growI_ren.t 25) (cap := cap) (sz := 1) i1 (later_new H.hi 0) (by omega) (Nat.zero_le _)
      (by simp [zeroCells_size, Value.cells]; omega)
    exact ⟨_, _, .sl 1 [] (.tok H.hi.length), { H with hi := H.hi ++ [0] }, rfl, .inr ⟨by omega, rfl, rfl⟩, e1.trans e2, i2, .inr ⟨w.heap.size, 0, cap, rfl, Nat.zero_le _, by simp [OwnOK, Gh.tokAt], trivial⟩⟩
end Go.Av
namespace Go.Av
open Go.Proofs
variable {W0 : World}
set_option maxRecDepth 10000
set_option maxHeartbeats 4000000
theorem sf26L {s : Str} {H : Hp} (h : 128 < s.length) : SF Tryz.prog W0 26 [.str s] H fun r H' => H' = H ∧ r = .bool false := by
  refine SF.pureLe (sf_start [2] 14 Tryz.func26 rfl rfl rfl (by decide) (by simp) ?_)
  repeat' first
    | refine aSq ?_ | refine aRt ?_ | refine aSk ?_ | refine aEx ?_ | refine aBl ?_ | refine tN ?_ | refine tR ?_ | refine tE ?_ | refine iR ?_
    | (refine rg 2 ?_
       refine tk 3 ?_
       first | (refine te (fun hb => ?_) (fun hb => ?_) <;> (try simp at hb) <;> try (exfalso; omega)) | (refine tk 1 ?_)
       all_goals (refine tk 1 ?_
                  first | (refine fg en27 ?_; refine SF.then (sf27 ..) ?_) | (refine tk 1 ?_)
                  refine tk 1 ?_
                  first | (refine fg en44 ?_; refine SF.then (sf44 ..) ?_) | (refine tk 1 ?_)
                  refine tk 3 ?_
                  refine dn ?_))
    | refine ru ?_
    | (refine awp_if rfl (fun hb => ?_) (fun hb => ?_) <;> (try simp at hb) <;> try (exfalso; omega))
    | refine inN ?_
  all_goals exact ⟨Gr.refl _, .bool false, by simp, rfl⟩
theorem sf18 (hB : LibOK W0) (hC : Base W0) {s : Str} {H : Hp} : SF Tryz.prog W0 18 [.str s] H fun r H' => H' = H ∧ ∃ x, r = .str x := by
  rcases Nat.lt_or_ge 128 s.length with hs | hs
  · refine SF.pureLe (Q := fun r => ∃ x, r = .str x) (sf_start [2] 16 Tryz.func18 rfl rfl rfl (by decide) (by simp) ?_)
    repeat' first
      | refine aSq ?_ | refine aRt ?_ | refine aSk ?_ | refine aEx ?_ | refine aBl ?_ | refine tN ?_ | refine tR ?_ | refine tE ?_ | refine iR ?_
      | (refine rg 1 ?_
         refine tk 1 ?_
         refine fc en26 ?_
         refine SF.then (sf26L hs) ?_
         refine tk 1 ?_
         refine dn ?_)
      | (refine rg 3 ?_
         refine tk 1 ?_
         refine fc en29 ?_
         refine SF.then (sf29 ..) ?_
         refine tk 7 ?_
         refine dn ?_)
      | refine ru ?_
      | (refine awp_if rfl (fun hb => ?_) (fun hb => ?_) <;> (try simp at hb) <;> try (exfalso; omega))
      | refine inN ?_
    all_goals exact ⟨Gr.refl _, _, .refl _, _, rfl⟩
  · refine SF.pureLe (Q := fun r => ∃ x, r = .str x) (sf_start [2] 16 Tryz.func18 rfl rfl rfl (by decide) (by simp) ?_)
    repeat' first
      | refine aSq ?_ | refine aRt ?_ | refine aSk ?_ | refine aEx ?_ | refine aBl ?_ | refine tN ?_ | refine tR ?_ | refine tE ?_ | refine iR ?_
      | (refine rg 1 ?_
         refine tk 1 ?_
         refine fc en26 ?_
         refine SF.then (sf26 hB (by omega)) ?_
         refine tk 1 ?_
         refine dn ?_)
      | (refine rg 3 ?_
         refine tk 1 ?_
         refine fc en29 ?_
         refine (lib29 hC s H (by omega)).mono ?_; rintro x1 H1 ⟨rfl, a, b, c, rfl⟩
         refine tk 7 ?_
         refine dn ?_)
      | refine ru ?_
      | (refine awp_if rfl (fun hb => ?_) (fun hb => ?_) <;> (try simp at hb) <;> try (exfalso; omega))
      | refine inN ?_
    all_goals exact ⟨Gr.refl _, _, .refl _, _, rfl⟩
end Go.Av
namespace Go.Av
open Go.Proofs
variable {W0 : World}
set_option maxRecDepth 10000
set_option maxHeartbeats 4000000
theorem sf48 {H : Hp} {a b : List Int} {o1 o2 : Own} (hl : a.length ≤ 67108864) :
    SF Tryz.prog W0 48 [.sl 1 (ints a) o1, .sl 1 (ints b) o2] H fun r H' => H' = H ∧ r = .bool (decide (a = b)) := by
  refine SF.pureLe (sf_start [4] 26 Tryz.func48 rfl rfl rfl (by decide) (by simp) ?_)
  repeat' first
    | refine aSq ?_ | refine aRt ?_ | refine aSk ?_ | refine aEx ?_ | refine aBl ?_ | refine tN ?_ | refine tR ?_ | refine tE ?_ | refine iR ?_
    | (refine dr 6 [(0, true), (1, true), (2, true), (3, true), (4, true), (5, true), (6, true), (7, true), (8, true)] [] ?_
       refine dl ?_)
    | refine ru ?_
    | (refine awp_if rfl (fun hb => ?_) (fun hb => ?_) <;> (try simp at hb) <;> try (exfalso; omega))
    | refine inN ?_
  · have : ¬ a = b := by intro h; subst h; exact absurd rfl hb
    simp [retQ, this]
  refine awp_loop_inv (fun k st => ∃ i : Nat, k = a.length - i ∧ i ≤ a.length ∧ a.take i = b.take i ∧ Sub st ⟨26, [(13, .int .i64 i), (12, .int .i64 a.length), (0, .sl 1 (ints a) o1), (1, .sl 1 (ints b) o2)], H⟩) a.length ⟨0, by simp, by simp, by simp, sb⟩ ?_
  rintro k st ⟨i, rfl, hi, hp, hs⟩
  refine awp_sub hs ?_
  clear hs st
  have hab : b.length = a.length := by omega
  repeat' first
    | refine aSq ?_ | refine aRt ?_ | refine aSk ?_ | refine aEx ?_ | refine aBl ?_ | refine tN ?_ | refine tR ?_ | refine tE ?_ | refine iR ?_
    | (refine dr 6 [(0, true), (1, true), (2, true), (3, true), (4, true), (5, true), (6, true), (7, true), (8, true)] [] ?_
       refine dl ?_)
    | refine ru ?_
    | (refine awp_if rfl (fun hb => ?_) (fun hb => ?_) <;> (try simp at hb) <;> try (exfalso; omega))
    | refine inN ?_
  · have : ¬ a = b := by rintro rfl; exact hb rfl
    simp [retQ, this]
  · refine ⟨a.length - (i + 1), by omega, i + 1, rfl, by omega, ?_, sb⟩
    rw [List.take_add_one, List.take_add_one, hp]; simp [*]
  · have : a = b := by
      rw [List.take_of_length_le (by omega), List.take_of_length_le (by omega)] at hp; exact hp
    simp [retQ, this]
theorem sf46 {H : Hp} {a b : List Str} {o1 o2 : Own} (hl : a.length ≤ 67108864) :
    SF Tryz.prog W0 46 [.sl 1 (strs a) o1, .sl 1 (strs b) o2] H fun r H' => H' = H ∧ r = .bool (decide (a = b)) := by
  refine SF.pureLe (sf_start [4] 26 Tryz.func46 rfl rfl rfl (by decide) (by simp) ?_)
  repeat' first
    | refine aSq ?_ | refine aRt ?_ | refine aSk ?_ | refine aEx ?_ | refine aBl ?_ | refine tN ?_ | refine tR ?_ | refine tE ?_ | refine iR ?_
    | (refine dr 6 [(0, true), (1, true), (2, true), (3, true), (4, true), (5, true), (6, true), (7, true), (8, true)] [] ?_
       refine dl ?_)
    | refine ru ?_
    | (refine awp_if rfl (fun hb => ?_) (fun hb => ?_) <;> (try simp at hb) <;> try (exfalso; omega))
    | refine inN ?_
  · have : ¬ a = b := by intro h; subst h; exact absurd rfl hb
    simp [retQ, this]
  refine awp_loop_inv (fun k st => ∃ i : Nat, k = a.length - i ∧ i ≤ a.length ∧ a.take i = b.take i ∧ Sub st ⟨26, [(13, .int .i64 i), (12, .int .i64 a.length), (0, .sl 1 (strs a) o1), (1, .sl 1 (strs b) o2)], H⟩) a.length ⟨0, by simp, by simp, by simp, sb⟩ ?_
  rintro k st ⟨i, rfl, hi, hp, hs⟩
  refine awp_sub hs ?_
  clear hs st
  have hab : b.length = a.length := by omega
  repeat' first
    | refine aSq ?_ | refine aRt ?_ | refine aSk ?_ | refine aEx ?_ | refine aBl ?_ | refine tN ?_ | refine tR ?_ | refine tE ?_ | refine iR ?_
    | (refine dr 6 [(0, true), (1, true), (2, true), (3, true), (4, true), (5, true), (6, true), (7, true), (8, true)] [] ?_
       refine dl ?_)
    | refine ru ?_
    | (refine awp_if rfl (fun hb => ?_) (fun hb => ?_) <;> (try simp at hb) <;> try (exfalso; omega))
    | refine inN ?_
  · have : ¬ a = b := by rintro rfl; exact hb rfl
    simp [retQ, this]
  · refine ⟨a.length - (i + 1), by omega, i + 1, rfl, by omega, ?_, sb⟩
    rw [List.take_add_one, List.take_add_one, hp]; simp [*]
  · have : a = b := by
      rw [List.take_of_length_le (by omega), List.take_of_length_le (by omega)] at hp; exact hp
    simp [retQ, this]
end Go.Av
namespace Go.Av
open Go.Proofs
variable {W0 : World}
set_option maxRecDepth 10000
set_option maxHeartbeats 4000000
theorem sf128 {n : Nat} {H : Hp} (hn : n ≤ 67108864) : SF Tryz.prog W0 128 [.slnil, .int .i64 n] H fun r H' => App H H' 1 [] r ∧ Gr H H' ∧ H'.objs = H.objs := by
  refine (lib128 hn).mono ?_
  rintro r H' (⟨_, rfl, rfl⟩ | ⟨_, rfl, rfl⟩)
  · exact ⟨App.slnil _ _ _, Gr.refl _, rfl⟩
  · exact ⟨⟨.inr (.inr ⟨H.hi.length, Nat.le_refl _, rfl, by simp⟩)⟩, (Gr.refl H).tok 0, rfl⟩
def ills (L : List (List Int)) : List (List AV) := L.map fun a => [.sl 1 (ints a) .shut]
@[simp] theorem ills_len (L : List (List Int)) : (ills L).length = L.length := by simp [ills]
@[simp] theorem ills_getE (L : List (List Int)) (i : Nat) (h : i < (ills L).length) : (ills L)[i] = [.sl 1 (ints (L[i]'(by simpa using h))) .shut] := by simp [ills]
@[simp] theorem ills_get (L : List (List Int)) (i : Nat) : (ills L)[i]? = (L[i]?).map fun a => [.sl 1 (ints a) .shut] := by simp [ills]
theorem flat_take (L : List (List Int)) (i : Nat) (h : i < L.length) : (L.take (i + 1)).flatten = (L.take i).flatten ++ L[i] := by
  rw [List.take_add_one, List.getElem?_eq_getElem h, List.flatten_append]; simp
theorem flat_le (L : List (List Int)) (i : Nat) : (L.take i).flatten.length ≤ L.flatten.length := by
  have : L.flatten = (L.take i).flatten ++ (L.drop i).flatten := by rw [← List.flatten_append, List.take_append_drop]
  rw [this]; simp
theorem sf93 {L : List (List Int)} {own : Own} {H : Hp} (hl : L.length ≤ 1000000) (ht : L.flatten.length ≤ 67108864) :
    SF Tryz.prog W0 93 [.sl 1 (ills L) own] H fun r H' => H' = H ∧ r = .sl 1 (ints L.flatten) .shut := by
  refine SF.pureLe (sf_start [2] 36 Tryz.func93 rfl rfl rfl (by decide) (by simp) ?_)
  repeat' first
    | refine aSq ?_ | refine aRt ?_ | refine aSk ?_ | refine aEx ?_ | refine aBl ?_ | refine tN ?_ | refine tR ?_ | refine tE ?_ | refine iR ?_
    | (refine rg 9 ?_
       refine tk 1 ?_
       refine fc en128 ?_
       refine SF.then (sf128 ..) ?_
       refine tk 1 ?_
       refine dn ?_)
    | refine ru ?_
    | (refine awp_if rfl (fun hb => ?_) (fun hb => ?_) <;> (try simp at hb) <;> try (exfalso; omega))
    | refine inN ?_
  refine awp_loop_inv (fun q st => ∃ i m : Nat, q = L.length - i ∧ i ≤ L.length ∧ m = (L.take i).flatten.length ∧ Sub st ⟨36, [(11, .int .i64 i), (10, .int .i64 L.length), (9, .sl 1 (ills L) own), (0, .sl 1 (ills L) own), (3, .int .i64 m)], H⟩) L.length ⟨0, 0, by simp, by simp, by simp, sb⟩ ?_
  rintro q st ⟨i, m, rfl, hi, hm, hs⟩
  refine awp_sub hs ?_
  clear hs st
  rcases Nat.lt_or_ge i L.length with hlt | hge
  · have hft := congrArg List.length (flat_take L i hlt)
    have hfl := flat_le L (i + 1)
    rw [List.length_append, ← hm] at hft
    repeat' first
      | refine aSq ?_ | refine aRt ?_ | refine aSk ?_ | refine aEx ?_ | refine aBl ?_ | refine tN ?_ | refine tR ?_ | refine tE ?_ | refine iR ?_
      | (refine rg 9 ?_
         refine tk 1 ?_
         refine fc en128 ?_
         refine SF.then (sf128 ..) ?_
         refine tk 1 ?_
         refine dn ?_)
      | refine ru ?_
      | (refine awp_if rfl (fun hb => ?_) (fun hb => ?_) <;> (try simp at hb) <;> try (exfalso; omega))
      | refine inN ?_
    exact ⟨L.length - (i + 1), by omega, i + 1, m + L[i].length, rfl, by omega, hft.symm, sb⟩
  have hi2 : i = L.length := by omega
  subst hi2
  rw [List.take_length] at hm
  rw [← hm] at ht
  repeat' first
    | refine aSq ?_ | refine aRt ?_ | refine aSk ?_ | refine aEx ?_ | refine aBl ?_ | refine tN ?_ | refine tR ?_ | refine tE ?_ | refine iR ?_
    | (refine rg 9 ?_
       refine tk 1 ?_
       refine fc en128 ?_
       refine (sf128 ht).mono ?_; rintro x1 H1 ⟨a0, g0, o0⟩
       refine tk 1 ?_
       refine dn ?_)
    | refine ru ?_
    | (refine awp_if rfl (fun hb => ?_) (fun hb => ?_) <;> (try simp at hb) <;> try (exfalso; omega))
    | refine inN ?_
  refine awp_loop_inv (fun q st => ∃ (i : Nat) (v : AV) (Hc : Hp), q = L.length - i ∧ i ≤ L.length ∧ App H Hc 1 (ints (L.take i).flatten) v ∧ Gr H Hc ∧ Hc.objs = H.objs ∧ Sub st ⟨36, [(27, .int .i64 i), (26, .int .i64 L.length), (25, .sl 1 (ills L) own), (6, v)], Hc⟩) L.length ⟨0, x1, H1, by simp, by simp, a0, g0, o0, sb⟩ ?_
  clear a0 g0 o0
  rintro q st ⟨i, v, Hc, rfl, hi, a1, g1, o1, hs⟩
  refine awp_sub hs ?_
  clear hs st
  rcases Nat.lt_or_ge i L.length with hlt | hge
  · have hft := congrArg List.length (flat_take L i hlt)
    have hfl := flat_le L (i + 1)
    rw [List.length_append] at hft
    obtain ⟨v2, H2, e2, a2, g2, h2⟩ := a1.append (T := tab) g1 (x := .sl 1 (ints L[i]) .shut) (fs := ints L[i]) (t := 33) (e := 3) tab33 tab3 rfl (by decide) (by simp) (by simp) (by rw [ints_len, ints_len]; omega)
    rw [← ints_append, ← flat_take L i hlt] at a2
    repeat' first
      | refine aSq ?_ | refine aRt ?_ | refine aSk ?_ | refine aEx ?_ | refine aBl ?_ | refine tN ?_ | refine tR ?_ | refine tE ?_ | refine iR ?_
      | (refine rg 9 ?_
         refine aops_take 1 (mu := mu0) tab_ok (by simp (disch := omega) [e2]; with_reducible rfl) ?_
         refine fc en128 ?_
         refine SF.then (sf128 ..) ?_
         refine aops_take 1 (mu := mu0) tab_ok (by simp (disch := omega) [e2]; with_reducible rfl) ?_
         refine dn ?_)
      | (refine awp_run (mu := mu0) tab_ok (by simp (disch := omega) [e2]; with_reducible rfl) ?_)
      | (refine awp_if rfl (fun hb => ?_) (fun hb => ?_) <;> (try simp at hb) <;> try (exfalso; omega))
      | refine inN ?_
    exact ⟨L.length - (i + 1), by omega, i + 1, v2, H2, rfl, by omega, a2, g2, h2.trans o1, sb⟩
  have hi2 : i = L.length := by omega
  subst hi2
  rw [List.take_length] at a1
  repeat' first
    | refine aSq ?_ | refine aRt ?_ | refine aSk ?_ | refine aEx ?_ | refine aBl ?_ | refine tN ?_ | refine tR ?_ | refine tE ?_ | refine iR ?_
    | (refine rg 9 ?_
       refine tk 1 ?_
       refine fc en128 ?_
       refine SF.then (sf128 ..) ?_
       refine tk 1 ?_
       refine dn ?_)
    | refine ru ?_
    | (refine awp_if rfl (fun hb => ?_) (fun hb => ?_) <;> (try simp at hb) <;> try (exfalso; omega))
    | refine inN ?_
  exact ⟨g1, _, a1.le2 (by simp), rfl⟩
end Go.Av
namespace Go.Av
open Go.Proofs
variable {W0 : World}
set_option maxRecDepth 10000
set_option maxHeartbeats 4000000
def prs (l : List Pr) : List (List AV) := l.map fun p => [.sl 1 (ints p.fr) .shut, .sl 1 (ints p.tt) .shut]
@[simp] theorem prs_len (l : List Pr) : (prs l).length = l.length := by simp [prs]
@[simp] theorem prs_getE (l : List Pr) (i : Nat) (h : i < (prs l).length) : (prs l)[i] = [.sl 1 (ints (l[i]'(by simpa using h)).fr) .shut, .sl 1 (ints (l[i]'(by simpa using h)).tt) .shut] := by simp [prs]
@[simp] theorem prs_get (l : List Pr) (i : Nat) : (prs l)[i]? = (l[i]?).map fun p => [.sl 1 (ints p.fr) .shut, .sl 1 (ints p.tt) .shut] := by simp [prs]
def backR (ps : List Pr) (q : Path) : AV := .tuple [.sl 1 (ints ((backB ps q).getD [])) .shut, .bool (backB ps q).isSome]
def PrOK (ps : List Pr) : Prop := ps.length ≤ 67108864 ∧ ∀ p ∈ ps, p.fr.length ≤ 1000000 ∧ p.tt.length ≤ 1000000
theorem bestI_drop (ps : List Pr) (q : Path) {i : Nat} (h : i < ps.length) (r : Int) : bestI ps q (ps.drop i) i r = bestI ps q (ps.drop (i + 1)) (i + 1) (if fitsB ps[i].tt q = true ∧ (r < 0 ∨ (ps.getD r.toNat ⟨[], []⟩).tt.length ≤ ps[i].tt.length) then (i : Int) else r) := by
  rw [List.drop_eq_getElem_cons h]; rfl
theorem sf47 {ps : List Pr} {q : Path} {o1 o2 : Own} {H : Hp} (hp : PrOK ps) (hq : q.length ≤ 1000000) :
    SF Tryz.prog W0 47 [.sl 2 (prs ps) o1, .sl 1 (ints q) o2] H fun r H' => H' = H ∧ r = backR ps q := by
  refine SF.pureLe (sf_start [4, 5] 69 Tryz.func47 rfl rfl rfl (by decide) (by simp) ?_)
  obtain ⟨hp1, hp2⟩ := hp
  repeat' first
    | refine aSq ?_ | refine aRt ?_ | refine aSk ?_ | refine aEx ?_ | refine aBl ?_ | refine tN ?_ | refine tR ?_ | refine tE ?_ | refine iR ?_
    | (refine dr 5 [(0, true), (1, true), (2, true), (3, true), (4, true), (5, true), (6, true), (7, true), (8, true), (9, true), (10, true), (11, true), (12, true), (13, true), (14, false), (15, true), (16, true)] [] ?_
       refine da 6 fun _ => ?_
       first | (refine de (fun hb => ?_) (fun hb => ?_) <;> (try simp at hb) <;> try (exfalso; omega)) | (refine da 1 fun _ => ?_)
       all_goals (refine da 7 fun _ => ?_
                  first | (refine dg en48 ?_; refine SF.then (sf48 ..) ?_; refine ⟨.inr rfl, ?_⟩) | (refine ds ?_)
                  refine dl ?_))
    | (refine dr 6 [(0, true), (1, true), (2, true), (3, true), (4, true), (5, true), (6, true), (7, true), (8, true), (9, true), (10, true), (11, true), (12, true), (13, true), (14, true), (15, true), (16, true)] [] ?_
       refine da 1 fun _ => ?_
       first | (refine de (fun hb => ?_) (fun hb => ?_) <;> (try simp at hb) <;> try (exfalso; omega)) | (refine da 1 fun _ => ?_)
       all_goals (refine da 2 fun _ => ?_
                  first | (refine de (fun hb => ?_) (fun hb => ?_) <;> (try simp at hb) <;> try (exfalso; omega)) | (refine da 1 fun _ => ?_)
                  all_goals (refine dl ?_)))
    | (refine dr 11 [(0, true), (1, true), (2, true), (3, true), (4, true), (5, true), (6, true), (7, true), (8, true), (9, true), (10, true), (11, true), (12, true), (13, false), (14, false), (15, true), (16, true)] [] ?_
       refine da 14 fun _ => ?_
       refine df en93 ?_
       refine SF.then (sf93 ..) ?_
       refine ⟨.inr rfl, ?_⟩
       refine dl ?_)
    | refine ru ?_
    | (refine awp_if rfl (fun hb => ?_) (fun hb => ?_) <;> (try simp at hb) <;> try (exfalso; omega))
    | refine inN ?_
  refine awp_loop_inv (fun k st => ∃ (i : Nat) (r : Int) (Hc : Hp), k = ps.length - i ∧ i ≤ ps.length ∧ -1 ≤ r ∧ r < i ∧ bestI ps q (ps.drop i) i r = bestB ps q ∧ (0 ≤ r → (ps.getD r.toNat ⟨[], []⟩).tt.length ≤ q.length) ∧ Gr H Hc ∧
    Sub st ⟨69, [(12, .int .i64 i), (11, .int .i64 ps.length), (10, .sl 2 (prs ps) o1), (0, .sl 2 (prs ps) o1), (1, .sl 1 (ints q) o2), (6, .int .i64 r)], Hc⟩) ps.length
    ⟨0, -1, H, by simp, by simp, by omega, by omega, rfl, by omega, Gr.refl H, sb⟩ ?_
  rintro k st ⟨i, r, Hc, rfl, hi, hr1, hr2, hbest, hfr, hg, hs⟩
  refine awp_sub hs ?_
  clear hs st
  rcases Nat.lt_or_ge i ps.length with hlt | hge
  · obtain ⟨hf1, hf2⟩ := hp2 _ (List.getElem_mem hlt)
    rw [bestI_drop ps q hlt r] at hbest
    obtain ⟨⟨fr, tt⟩, hpi⟩ : ∃ p, ps[i] = p := ⟨_, rfl⟩
    rw [hpi] at hbest hf1 hf2
    simp only at hbest hf1 hf2
    rcases Nat.lt_or_ge q.length tt.length with hlen | hle
    · have hf : fitsB tt q = false := by simp [fitsB]; omega
      have hnl : ¬ tt.length ≤ q.length := by omega
      rw [if_neg (by simp [hf])] at hbest
      repeat' first
        | refine aSq ?_ | refine aRt ?_ | refine aSk ?_ | refine aEx ?_ | refine aBl ?_ | refine tN ?_ | refine tR ?_ | refine tE ?_ | refine iR ?_
        | (refine dr 5 [(0, true), (1, true), (2, true), (3, true), (4, true), (5, true), (6, true), (7, true), (8, true), (9, true), (10, true), (11, true), (12, true), (13, true), (14, false), (15, true), (16, true)] [] ?_
           refine adr_take 6 rfl (by decide +kernel) (by simp (disch := omega) [hpi, hnl]; with_reducible rfl) (fun _ => ?_)
           first | (refine adr_test rfl (by decide +kernel) (by simp; rfl) (by simp (disch := omega) [hpi, hnl]; with_reducible rfl) rfl rfl (fun hb => ?_) (fun hb => ?_) <;> (try simp at hb) <;> try (exfalso; omega)) | (refine adr_take 1 rfl (by decide +kernel) (by simp (disch := omega) [hpi, hnl]; with_reducible rfl) (fun _ => ?_))
           all_goals (refine adr_take 7 rfl (by decide +kernel) (by simp (disch := omega) [hpi, hnl]; with_reducible rfl) (fun _ => ?_)
                      first | (refine dg en48 ?_; refine SF.then (sf48 (by first | omega | (simp; omega))) ?_; refine ⟨.inr rfl, ?_⟩) | (refine adr_step rfl (by decide +kernel) (by simp; rfl) (by simp (disch := omega) [hpi, hnl]; with_reducible rfl) rfl rfl ?_)
                      refine adr_all rfl (by decide +kernel) (by simp (disch := omega) [hpi, hnl]; with_reducible rfl) ?_))
        | (refine dr 6 [(0, true), (1, true), (2, true), (3, true), (4, true), (5, true), (6, true), (7, true), (8, true), (9, true), (10, true), (11, true), (12, true), (13, true), (14, true), (15, true), (16, true)] [] ?_
           refine adr_take 1 rfl (by decide +kernel) (by simp (disch := omega) [hpi, hnl]; with_reducible rfl) (fun _ => ?_)
           first | (refine adr_test rfl (by decide +kernel) (by simp; rfl) (by simp (disch := omega) [hpi, hnl]; with_reducible rfl) rfl rfl (fun hb => ?_) (fun hb => ?_) <;> (try simp at hb) <;> try (exfalso; omega)) | (refine adr_take 1 rfl (by decide +kernel) (by simp (disch := omega) [hpi, hnl]; with_reducible rfl) (fun _ => ?_))
           all_goals (refine adr_take 2 rfl (by decide +kernel) (by simp (disch := omega) [hpi, hnl]; with_reducible rfl) (fun _ => ?_)
                      first | (refine adr_test rfl (by decide +kernel) (by simp; rfl) (by simp (disch := omega) [hpi, hnl]; with_reducible rfl) rfl rfl (fun hb => ?_) (fun hb => ?_) <;> (try simp at hb) <;> try (exfalso; omega)) | (refine adr_take 1 rfl (by decide +kernel) (by simp (disch := omega) [hpi, hnl]; with_reducible rfl) (fun _ => ?_))
                      all_goals (refine adr_all rfl (by decide +kernel) (by simp (disch := omega) [hpi, hnl]; with_reducible rfl) ?_)))
        | (refine dr 11 [(0, true), (1, true), (2, true), (3, true), (4, true), (5, true), (6, true), (7, true), (8, true), (9, true), (10, true), (11, true), (12, true), (13, false), (14, false), (15, true), (16, true)] [] ?_
           refine adr_take 14 rfl (by decide +kernel) (by simp (disch := omega) [hpi, hnl]; with_reducible rfl) (fun _ => ?_)
           refine df en93 ?_
           refine SF.then (sf93 ..) ?_
           refine ⟨.inr rfl, ?_⟩
           refine adr_all rfl (by decide +kernel) (by simp (disch := omega) [hpi, hnl]; with_reducible rfl) ?_)
        | (refine awp_run (mu := mu0) tab_ok (by simp (disch := omega) [hpi, hnl]; with_reducible rfl) ?_)
        | (refine awp_if rfl (fun hb => ?_) (fun hb => ?_) <;> (try simp at hb) <;> try (exfalso; omega))
        | refine inN ?_
      exact ⟨ps.length - (i + 1), by omega, i + 1, r, _, rfl, by omega, by omega, by omega, hbest, hfr, hg.obj _, sb⟩
    by_cases hta : q.take tt.length = tt
    · have hf : fitsB tt q = true := by simp [fitsB, hta]; omega
      by_cases hr0 : r < 0
      · rw [if_pos ⟨hf, .inl hr0⟩] at hbest
        repeat' first
          | refine aSq ?_ | refine aRt ?_ | refine aSk ?_ | refine aEx ?_ | refine aBl ?_ | refine tN ?_ | refine tR ?_ | refine tE ?_ | refine iR ?_
          | (refine dr 5 [(0, true), (1, true), (2, true), (3, true), (4, true), (5, true), (6, true), (7, true), (8, true), (9, true), (10, true), (11, true), (12, true), (13, true), (14, false), (15, true), (16, true)] [] ?_
             refine adr_take 6 rfl (by decide +kernel) (by simp (disch := omega) [hpi, hle, hta, hr0]; with_reducible rfl) (fun _ => ?_)
             first | (refine adr_test rfl (by decide +kernel) (by simp; rfl) (by simp (disch := omega) [hpi, hle, hta, hr0]; with_reducible rfl) rfl rfl (fun hb => ?_) (fun hb => ?_) <;> (try simp at hb) <;> try (exfalso; omega)) | (refine adr_take 1 rfl (by decide +kernel) (by simp (disch := omega) [hpi, hle, hta, hr0]; with_reducible rfl) (fun _ => ?_))
             all_goals (refine adr_take 7 rfl (by decide +kernel) (by simp (disch := omega) [hpi, hle, hta, hr0]; with_reducible rfl) (fun _ => ?_)
                        first | (refine dg en48 ?_; refine SF.then (sf48 (by first | omega | (simp; omega))) ?_; refine ⟨.inr rfl, ?_⟩) | (refine adr_step rfl (by decide +kernel) (by simp; rfl) (by simp (disch := omega) [hpi, hle, hta, hr0]; with_reducible rfl) rfl rfl ?_)
                        refine adr_all rfl (by decide +kernel) (by simp (disch := omega) [hpi, hle, hta, hr0]; with_reducible rfl) ?_))
          | (refine dr 6 [(0, true), (1, true), (2, true), (3, true), (4, true), (5, true), (6, true), (7, true), (8, true), (9, true), (10, true), (11, true), (12, true), (13, true), (14, true), (15, true), (16, true)] [] ?_
             refine adr_take 1 rfl (by decide +kernel) (by simp (disch := omega) [hpi, hle, hta, hr0]; with_reducible rfl) (fun _ => ?_)
             first | (refine adr_test rfl (by decide +kernel) (by simp; rfl) (by simp (disch := omega) [hpi, hle, hta, hr0]; with_reducible rfl) rfl rfl (fun hb => ?_) (fun hb => ?_) <;> (try simp at hb) <;> try (exfalso; omega)) | (refine adr_take 1 rfl (by decide +kernel) (by simp (disch := omega) [hpi, hle, hta, hr0]; with_reducible rfl) (fun _ => ?_))
             all_goals (refine adr_take 2 rfl (by decide +kernel) (by simp (disch := omega) [hpi, hle, hta, hr0]; with_reducible rfl) (fun _ => ?_)
                        first | (refine adr_test rfl (by decide +kernel) (by simp; rfl) (by simp (disch := omega) [hpi, hle, hta, hr0]; with_reducible rfl) rfl rfl (fun hb => ?_) (fun hb => ?_) <;> (try simp at hb) <;> try (exfalso; omega)) | (refine adr_take 1 rfl (by decide +kernel) (by simp (disch := omega) [hpi, hle, hta, hr0]; with_reducible rfl) (fun _ => ?_))
                        all_goals (refine adr_all rfl (by decide +kernel) (by simp (disch := omega) [hpi, hle, hta, hr0]; with_reducible rfl) ?_)))
          | (refine dr 11 [(0, true), (1, true), (2, true), (3, true), (4, true), (5, true), (6, true), (7, true), (8, true), (9, true), (10, true), (11, true), (12, true), (13, false), (14, false), (15, true), (16, true)] [] ?_
             refine adr_take 14 rfl (by decide +kernel) (by simp (disch := omega) [hpi, hle, hta, hr0]; with_reducible rfl) (fun _ => ?_)
             refine df en93 ?_
             refine SF.then (sf93 ..) ?_
             refine ⟨.inr rfl, ?_⟩
             refine adr_all rfl (by decide +kernel) (by simp (disch := omega) [hpi, hle, hta, hr0]; with_reducible rfl) ?_)
          | (refine awp_run (mu := mu0) tab_ok (by simp (disch := omega) [hpi, hle, hta, hr0]; with_reducible rfl) ?_)
          | (refine awp_if rfl (fun hb => ?_) (fun hb => ?_) <;> (try simp at hb) <;> try (exfalso; omega))
          | refine inN ?_
        exact ⟨ps.length - (i + 1), by omega, i + 1, (i : Int), _, rfl, by omega, by omega, by omega, hbest, by intro _; simp [List.getD, hlt, hpi]; exact hle, hg.obj _, sb⟩
      · obtain ⟨j, rfl⟩ : ∃ j : Nat, r = j := ⟨r.toNat, by omega⟩
        have hj : j < ps.length := by omega
        obtain ⟨⟨f2, t2⟩, hpj⟩ : ∃ p, ps[j] = p := ⟨_, rfl⟩
        have hgd : ps.getD (j : Int).toNat ⟨[], []⟩ = ⟨f2, t2⟩ := by simp [List.getD, hj, hpj]
        rw [hgd] at hbest
        simp only at hbest
        by_cases hcm : t2.length ≤ tt.length
        · rw [if_pos ⟨hf, .inr hcm⟩] at hbest
          repeat' first
            | refine aSq ?_ | refine aRt ?_ | refine aSk ?_ | refine aEx ?_ | refine aBl ?_ | refine tN ?_ | refine tR ?_ | refine tE ?_ | refine iR ?_
            | (refine dr 5 [(0, true), (1, true), (2, true), (3, true), (4, true), (5, true), (6, true), (7, true), (8, true), (9, true), (10, true), (11, true), (12, true), (13, true), (14, false), (15, true), (16, true)] [] ?_
               refine adr_take 6 rfl (by decide +kernel) (by simp (disch := omega) [hpi, hpj, hle, hta, hr0, hcm]; with_reducible rfl) (fun _ => ?_)
               first | (refine adr_test rfl (by decide +kernel) (by simp; rfl) (by simp (disch := omega) [hpi, hpj, hle, hta, hr0, hcm]; with_reducible rfl) rfl rfl (fun hb => ?_) (fun hb => ?_) <;> (try simp at hb) <;> try (exfalso; omega)) | (refine adr_take 1 rfl (by decide +kernel) (by simp (disch := omega) [hpi, hpj, hle, hta, hr0, hcm]; with_reducible rfl) (fun _ => ?_))
               all_goals (refine adr_take 7 rfl (by decide +kernel) (by simp (disch := omega) [hpi, hpj, hle, hta, hr0, hcm]; with_reducible rfl) (fun _ => ?_)
                          first | (refine dg en48 ?_; refine SF.then (sf48 (by first | omega | (simp; omega))) ?_; refine ⟨.inr rfl, ?_⟩) | (refine adr_step rfl (by decide +kernel) (by simp; rfl) (by simp (disch := omega) [hpi, hpj, hle, hta, hr0, hcm]; with_reducible rfl) rfl rfl ?_)
                          refine adr_all rfl (by decide +kernel) (by simp (disch := omega) [hpi, hpj, hle, hta, hr0, hcm]; with_reducible rfl) ?_))
            | (refine dr 6 [(0, true), (1, true), (2, true), (3, true), (4, true), (5, true), (6, true), (7, true), (8, true), (9, true), (10, true), (11, true), (12, true), (13, true), (14, true), (15, true), (16, true)] [] ?_
               refine adr_take 1 rfl (by decide +kernel) (by simp (disch := omega) [hpi, hpj, hle, hta, hr0, hcm]; with_reducible rfl) (fun _ => ?_)
               first | (refine adr_test rfl (by decide +kernel) (by simp; rfl) (by simp (disch := omega) [hpi, hpj, hle, hta, hr0, hcm]; with_reducible rfl) rfl rfl (fun hb => ?_) (fun hb => ?_) <;> (try simp at hb) <;> try (exfalso; omega)) | (refine adr_take 1 rfl (by decide +kernel) (by simp (disch := omega) [hpi, hpj, hle, hta, hr0, hcm]; with_reducible rfl) (fun _ => ?_))
               all_goals (refine adr_take 2 rfl (by decide +kernel) (by simp (disch := omega) [hpi, hpj, hle, hta, hr0, hcm]; with_reducible rfl) (fun _ => ?_)
                          first | (refine adr_test rfl (by decide +kernel) (by simp; rfl) (by simp (disch := omega) [hpi, hpj, hle, hta, hr0, hcm]; with_reducible rfl) rfl rfl (fun hb => ?_) (fun hb => ?_) <;> (try simp at hb) <;> try (exfalso; omega)) | (refine adr_take 1 rfl (by decide +kernel) (by simp (disch := omega) [hpi, hpj, hle, hta, hr0, hcm]; with_reducible rfl) (fun _ => ?_))
                          all_goals (refine adr_all rfl (by decide +kernel) (by simp (disch := omega) [hpi, hpj, hle, hta, hr0, hcm]; with_reducible rfl) ?_)))
            | (refine dr 11 [(0, true), (1, true), (2, true), (3, true), (4, true), (5, true), (6, true), (7, true), (8, true), (9, true), (10, true), (11, true), (12, true), (13, false), (14, false), (15, true), (16, true)] [] ?_
               refine adr_take 14 rfl (by decide +kernel) (by simp (disch := omega) [hpi, hpj, hle, hta, hr0, hcm]; with_reducible rfl) (fun _ => ?_)
               refine df en93 ?_
               refine SF.then (sf93 ..) ?_
               refine ⟨.inr rfl, ?_⟩
               refine adr_all rfl (by decide +kernel) (by simp (disch := omega) [hpi, hpj, hle, hta, hr0, hcm]; with_reducible rfl) ?_)
            | (refine awp_run (mu := mu0) tab_ok (by simp (disch := omega) [hpi, hpj, hle, hta, hr0, hcm]; with_reducible rfl) ?_)
            | (refine awp_if rfl (fun hb => ?_) (fun hb => ?_) <;> (try simp at hb) <;> try (exfalso; omega))
            | refine inN ?_
          exact ⟨ps.length - (i + 1), by omega, i + 1, (i : Int), _, rfl, by omega, by omega, by omega, hbest, by intro _; simp [List.getD, hlt, hpi]; exact hle, hg.obj _, sb⟩
        · rw [if_neg (by rintro ⟨-, h | h⟩ <;> omega)] at hbest
          repeat' first
            | refine aSq ?_ | refine aRt ?_ | refine aSk ?_ | refine aEx ?_ | refine aBl ?_ | refine tN ?_ | refine tR ?_ | refine tE ?_ | refine iR ?_
            | (refine dr 5 [(0, true), (1, true), (2, true), (3, true), (4, true), (5, true), (6, true), (7, true), (8, true), (9, true), (10, true), (11, true), (12, true), (13, true), (14, false), (15, true), (16, true)] [] ?_
               refine adr_take 6 rfl (by decide +kernel) (by simp (disch := omega) [hpi, hpj, hle, hta, hr0, hcm]; with_reducible rfl) (fun _ => ?_)
               first | (refine adr_test rfl (by decide +kernel) (by simp; rfl) (by simp (disch := omega) [hpi, hpj, hle, hta, hr0, hcm]; with_reducible rfl) rfl rfl (fun hb => ?_) (fun hb => ?_) <;> (try simp at hb) <;> try (exfalso; omega)) | (refine adr_take 1 rfl (by decide +kernel) (by simp (disch := omega) [hpi, hpj, hle, hta, hr0, hcm]; with_reducible rfl) (fun _ => ?_))
               all_goals (refine adr_take 7 rfl (by decide +kernel) (by simp (disch := omega) [hpi, hpj, hle, hta, hr0, hcm]; with_reducible rfl) (fun _ => ?_)
                          first | (refine dg en48 ?_; refine SF.then (sf48 (by first | omega | (simp; omega))) ?_; refine ⟨.inr rfl, ?_⟩) | (refine adr_step rfl (by decide +kernel) (by simp; rfl) (by simp (disch := omega) [hpi, hpj, hle, hta, hr0, hcm]; with_reducible rfl) rfl rfl ?_)
                          refine adr_all rfl (by decide +kernel) (by simp (disch := omega) [hpi, hpj, hle, hta, hr0, hcm]; with_reducible rfl) ?_))
            | (refine dr 6 [(0, true), (1, true), (2, true), (3, true), (4, true), (5, true), (6, true), (7, true), (8, true), (9, true), (10, true), (11, true), (12, true), (13, true), (14, true), (15, true), (16, true)] [] ?_
               refine adr_take 1 rfl (by decide +kernel) (by simp (disch := omega) [hpi, hpj, hle, hta, hr0, hcm]; with_reducible rfl) (fun _ => ?_)
               first | (refine adr_test rfl (by decide +kernel) (by simp; rfl) (by simp (disch := omega) [hpi, hpj, hle, hta, hr0, hcm]; with_reducible rfl) rfl rfl (fun hb => ?_) (fun hb => ?_) <;> (try simp at hb) <;> try (exfalso; omega)) | (refine adr_take 1 rfl (by decide +kernel) (by simp (disch := omega) [hpi, hpj, hle, hta, hr0, hcm]; with_reducible rfl) (fun _ => ?_))
               all_goals (refine adr_take 2 rfl (by decide +kernel) (by simp (disch := omega) [hpi, hpj, hle, hta, hr0, hcm]; with_reducible rfl) (fun _ => ?_)
                          first | (refine adr_test rfl (by decide +kernel) (by simp; rfl) (by simp (disch := omega) [hpi, hpj, hle, hta, hr0, hcm]; with_reducible rfl) rfl rfl (fun hb => ?_) (fun hb => ?_) <;> (try simp at hb) <;> try (exfalso; omega)) | (refine adr_take 1 rfl (by decide +kernel) (by simp (disch := omega) [hpi, hpj, hle, hta, hr0, hcm]; with_reducible rfl) (fun _ => ?_))
                          all_goals (refine adr_all rfl (by decide +kernel) (by simp (disch := omega) [hpi, hpj, hle, hta, hr0, hcm]; with_reducible rfl) ?_)))
            | (refine dr 11 [(0, true), (1, true), (2, true), (3, true), (4, true), (5, true), (6, true), (7, true), (8, true), (9, true), (10, true), (11, true), (12, true), (13, false), (14, false), (15, true), (16, true)] [] ?_
               refine adr_take 14 rfl (by decide +kernel) (by simp (disch := omega) [hpi, hpj, hle, hta, hr0, hcm]; with_reducible rfl) (fun _ => ?_)
               refine df en93 ?_
               refine SF.then (sf93 ..) ?_
               refine ⟨.inr rfl, ?_⟩
               refine adr_all rfl (by decide +kernel) (by simp (disch := omega) [hpi, hpj, hle, hta, hr0, hcm]; with_reducible rfl) ?_)
            | (refine awp_run (mu := mu0) tab_ok (by simp (disch := omega) [hpi, hpj, hle, hta, hr0, hcm]; with_reducible rfl) ?_)
            | (refine awp_if rfl (fun hb => ?_) (fun hb => ?_) <;> (try simp at hb) <;> try (exfalso; omega))
            | refine inN ?_
          exact ⟨ps.length - (i + 1), by omega, i + 1, (j : Int), _, rfl, by omega, by omega, by omega, hbest, hfr, hg.obj _, sb⟩
    · have hf : fitsB tt q = false := by simp [fitsB, hta]
      rw [if_neg (by simp [hf])] at hbest
      repeat' first
        | refine aSq ?_ | refine aRt ?_ | refine aSk ?_ | refine aEx ?_ | refine aBl ?_ | refine tN ?_ | refine tR ?_ | refine tE ?_ | refine iR ?_
        | (refine dr 5 [(0, true), (1, true), (2, true), (3, true), (4, true), (5, true), (6, true), (7, true), (8, true), (9, true), (10, true), (11, true), (12, true), (13, true), (14, false), (15, true), (16, true)] [] ?_
           refine adr_take 6 rfl (by decide +kernel) (by simp (disch := omega) [hpi, hle, hta]; with_reducible rfl) (fun _ => ?_)
           first | (refine adr_test rfl (by decide +kernel) (by simp; rfl) (by simp (disch := omega) [hpi, hle, hta]; with_reducible rfl) rfl rfl (fun hb => ?_) (fun hb => ?_) <;> (try simp at hb) <;> try (exfalso; omega)) | (refine adr_take 1 rfl (by decide +kernel) (by simp (disch := omega) [hpi, hle, hta]; with_reducible rfl) (fun _ => ?_))
           all_goals (refine adr_take 7 rfl (by decide +kernel) (by simp (disch := omega) [hpi, hle, hta]; with_reducible rfl) (fun _ => ?_)
                      first | (refine dg en48 ?_; refine SF.then (sf48 (by first | omega | (simp; omega))) ?_; refine ⟨.inr rfl, ?_⟩) | (refine adr_step rfl (by decide +kernel) (by simp; rfl) (by simp (disch := omega) [hpi, hle, hta]; with_reducible rfl) rfl rfl ?_)
                      refine adr_all rfl (by decide +kernel) (by simp (disch := omega) [hpi, hle, hta]; with_reducible rfl) ?_))
        | (refine dr 6 [(0, true), (1, true), (2, true), (3, true), (4, true), (5, true), (6, true), (7, true), (8, true), (9, true), (10, true), (11, true), (12, true), (13, true), (14, true), (15, true), (16, true)] [] ?_
           refine adr_take 1 rfl (by decide +kernel) (by simp (disch := omega) [hpi, hle, hta]; with_reducible rfl) (fun _ => ?_)
           first | (refine adr_test rfl (by decide +kernel) (by simp; rfl) (by simp (disch := omega) [hpi, hle, hta]; with_reducible rfl) rfl rfl (fun hb => ?_) (fun hb => ?_) <;> (try simp at hb) <;> try (exfalso; omega)) | (refine adr_take 1 rfl (by decide +kernel) (by simp (disch := omega) [hpi, hle, hta]; with_reducible rfl) (fun _ => ?_))
           all_goals (refine adr_take 2 rfl (by decide +kernel) (by simp (disch := omega) [hpi, hle, hta]; with_reducible rfl) (fun _ => ?_)
                      first | (refine adr_test rfl (by decide +kernel) (by simp; rfl) (by simp (disch := omega) [hpi, hle, hta]; with_reducible rfl) rfl rfl (fun hb => ?_) (fun hb => ?_) <;> (try simp at hb) <;> try (exfalso; omega)) | (refine adr_take 1 rfl (by decide +kernel) (by simp (disch := omega) [hpi, hle, hta]; with_reducible rfl) (fun _ => ?_))
                      all_goals (refine adr_all rfl (by decide +kernel) (by simp (disch := omega) [hpi, hle, hta]; with_reducible rfl) ?_)))
        | (refine dr 11 [(0, true), (1, true), (2, true), (3, true), (4, true), (5, true), (6, true), (7, true), (8, true), (9, true), (10, true), (11, true), (12, true), (13, false), (14, false), (15, true), (16, true)] [] ?_
           refine adr_take 14 rfl (by decide +kernel) (by simp (disch := omega) [hpi, hle, hta]; with_reducible rfl) (fun _ => ?_)
           refine df en93 ?_
           refine SF.then (sf93 ..) ?_
           refine ⟨.inr rfl, ?_⟩
           refine adr_all rfl (by decide +kernel) (by simp (disch := omega) [hpi, hle, hta]; with_reducible rfl) ?_)
        | (refine awp_run (mu := mu0) tab_ok (by simp (disch := omega) [hpi, hle, hta]; with_reducible rfl) ?_)
        | (refine awp_if rfl (fun hb => ?_) (fun hb => ?_) <;> (try simp at hb) <;> try (exfalso; omega))
        | refine inN ?_
      exact ⟨ps.length - (i + 1), by omega, i + 1, r, _, rfl, by omega, by omega, by omega, hbest, hfr, hg.obj _, sb⟩
  have hi2 : i = ps.length := by omega
  subst hi2
  rw [List.drop_length] at hbest
  simp only [bestI] at hbest
  by_cases hr0 : r < 0
  · have hbk : backB ps q = none := by simp [backB, ← hbest, hr0]
    repeat' first
      | refine aSq ?_ | refine aRt ?_ | refine aSk ?_ | refine aEx ?_ | refine aBl ?_ | refine tN ?_ | refine tR ?_ | refine tE ?_ | refine iR ?_
      | (refine dr 5 [(0, true), (1, true), (2, true), (3, true), (4, true), (5, true), (6, true), (7, true), (8, true), (9, true), (10, true), (11, true), (12, true), (13, true), (14, false), (15, true), (16, true)] [] ?_
         refine da 6 fun _ => ?_
         first | (refine de (fun hb => ?_) (fun hb => ?_) <;> (try simp at hb) <;> try (exfalso; omega)) | (refine da 1 fun _ => ?_)
         all_goals (refine da 7 fun _ => ?_
                    first | (refine dg en48 ?_; refine SF.then (sf48 ..) ?_; refine ⟨.inr rfl, ?_⟩) | (refine ds ?_)
                    refine dl ?_))
      | (refine dr 6 [(0, true), (1, true), (2, true), (3, true), (4, true), (5, true), (6, true), (7, true), (8, true), (9, true), (10, true), (11, true), (12, true), (13, true), (14, true), (15, true), (16, true)] [] ?_
         refine da 1 fun _ => ?_
         first | (refine de (fun hb => ?_) (fun hb => ?_) <;> (try simp at hb) <;> try (exfalso; omega)) | (refine da 1 fun _ => ?_)
         all_goals (refine da 2 fun _ => ?_
                    first | (refine de (fun hb => ?_) (fun hb => ?_) <;> (try simp at hb) <;> try (exfalso; omega)) | (refine da 1 fun _ => ?_)
                    all_goals (refine dl ?_)))
      | (refine dr 11 [(0, true), (1, true), (2, true), (3, true), (4, true), (5, true), (6, true), (7, true), (8, true), (9, true), (10, true), (11, true), (12, true), (13, false), (14, false), (15, true), (16, true)] [] ?_
         refine da 14 fun _ => ?_
         refine df en93 ?_
         refine SF.then (sf93 ..) ?_
         refine ⟨.inr rfl, ?_⟩
         refine dl ?_)
      | refine ru ?_
      | (refine awp_if rfl (fun hb => ?_) (fun hb => ?_) <;> (try simp at hb) <;> try (exfalso; omega))
      | refine inN ?_
    exact ⟨hg, .tuple [.sl 1 [] .shut, .bool false], .tuple (.cons (.nilShut 1) (.cons (.refl _) .nil)), by simp [backR, hbk, ints]⟩
  obtain ⟨j, rfl⟩ : ∃ j : Nat, r = j := ⟨r.toNat, by omega⟩
  have hj : j < ps.length := by omega
  obtain ⟨⟨f2, t2⟩, hpj⟩ : ∃ p, ps[j] = p := ⟨_, rfl⟩
  have hbk : backB ps q = some (f2 ++ q.drop t2.length) := by
    unfold backB
    rw [← hbest, if_neg hr0]
    simp [List.getD, hj, hpj]
  obtain ⟨hf1, hf2⟩ := hp2 _ (List.getElem_mem hj)
  rw [hpj] at hf1 hf2
  simp only at hf1 hf2
  have hle : t2.length ≤ q.length := by have := hfr (by omega); simpa [List.getD, hj, hpj] using this
  repeat' first
    | refine aSq ?_ | refine aRt ?_ | refine aSk ?_ | refine aEx ?_ | refine aBl ?_ | refine tN ?_ | refine tR ?_ | refine tE ?_ | refine iR ?_
    | (refine dr 5 [(0, true), (1, true), (2, true), (3, true), (4, true), (5, true), (6, true), (7, true), (8, true), (9, true), (10, true), (11, true), (12, true), (13, true), (14, false), (15, true), (16, true)] [] ?_
       refine adr_take 6 rfl (by decide +kernel) (by simp (disch := omega) [hpj, hle, hr0]; with_reducible rfl) (fun _ => ?_)
       first | (refine adr_test rfl (by decide +kernel) (by simp; rfl) (by simp (disch := omega) [hpj, hle, hr0]; with_reducible rfl) rfl rfl (fun hb => ?_) (fun hb => ?_) <;> (try simp at hb) <;> try (exfalso; omega)) | (refine adr_take 1 rfl (by decide +kernel) (by simp (disch := omega) [hpj, hle, hr0]; with_reducible rfl) (fun _ => ?_))
       all_goals (refine adr_take 7 rfl (by decide +kernel) (by simp (disch := omega) [hpj, hle, hr0]; with_reducible rfl) (fun _ => ?_)
                  first | (refine dg en48 ?_; refine SF.then (sf48 ..) ?_; refine ⟨.inr rfl, ?_⟩) | (refine adr_step rfl (by decide +kernel) (by simp; rfl) (by simp (disch := omega) [hpj, hle, hr0]; with_reducible rfl) rfl rfl ?_)
                  refine adr_all rfl (by decide +kernel) (by simp (disch := omega) [hpj, hle, hr0]; with_reducible rfl) ?_))
    | (refine dr 6 [(0, true), (1, true), (2, true), (3, true), (4, true), (5, true), (6, true), (7, true), (8, true), (9, true), (10, true), (11, true), (12, true), (13, true), (14, true), (15, true), (16, true)] [] ?_
       refine adr_take 1 rfl (by decide +kernel) (by simp (disch := omega) [hpj, hle, hr0]; with_reducible rfl) (fun _ => ?_)
       first | (refine adr_test rfl (by decide +kernel) (by simp; rfl) (by simp (disch := omega) [hpj, hle, hr0]; with_reducible rfl) rfl rfl (fun hb => ?_) (fun hb => ?_) <;> (try simp at hb) <;> try (exfalso; omega)) | (refine adr_take 1 rfl (by decide +kernel) (by simp (disch := omega) [hpj, hle, hr0]; with_reducible rfl) (fun _ => ?_))
       all_goals (refine adr_take 2 rfl (by decide +kernel) (by simp (disch := omega) [hpj, hle, hr0]; with_reducible rfl) (fun _ => ?_)
                  first | (refine adr_test rfl (by decide +kernel) (by simp; rfl) (by simp (disch := omega) [hpj, hle, hr0]; with_reducible rfl) rfl rfl (fun hb => ?_) (fun hb => ?_) <;> (try simp at hb) <;> try (exfalso; omega)) | (refine adr_take 1 rfl (by decide +kernel) (by simp (disch := omega) [hpj, hle, hr0]; with_reducible rfl) (fun _ => ?_))
                  all_goals (refine adr_all rfl (by decide +kernel) (by simp (disch := omega) [hpj, hle, hr0]; with_reducible rfl) ?_)))
    | (refine dr 11 [(0, true), (1, true), (2, true), (3, true), (4, true), (5, true), (6, true), (7, true), (8, true), (9, true), (10, true), (11, true), (12, true), (13, false), (14, false), (15, true), (16, true)] [] ?_
       refine adr_take 14 rfl (by decide +kernel) (by simp (disch := omega) [hpj, hle, hr0]; with_reducible rfl) (fun _ => ?_)
       refine df en93 ?_
       refine SF.then (SF.args (args' := [.sl 1 (ills [f2, q.drop t2.length]) .shut]) (.cons (.sl (.cons (.cons (.refl _) .nil) (.cons (.cons (.sl (LeLL.refl _) (.inr rfl)) .nil) .nil)) (.inr rfl)) .nil) (sf93 (L := [f2, q.drop t2.length]) (by simp) (by simp; omega))) ?_
       refine ⟨.inr rfl, ?_⟩
       refine adr_all rfl (by decide +kernel) (by simp (disch := omega) [hpj, hle, hr0]; with_reducible rfl) ?_)
    | (refine awp_run (mu := mu0) tab_ok (by simp (disch := omega) [hpj, hle, hr0]; with_reducible rfl) ?_)
    | (refine awp_if rfl (fun hb => ?_) (fun hb => ?_) <;> (try simp at hb) <;> try (exfalso; omega))
    | refine inN ?_
  exact ⟨hg, _, .refl _, by simp [backR, hbk]⟩
end Go.Av
