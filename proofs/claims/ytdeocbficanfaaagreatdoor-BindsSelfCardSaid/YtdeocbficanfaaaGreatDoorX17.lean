/-
  Go read by value: lemmas (part 17): D8, D9, D10, D11, D12, D13.
-/
import Derived.Test.YtdeocbficanfaaaGreatDoorX13
import Derived.Test.YtdeocbficanfaaaGreatDoorX16
set_option linter.unusedVariables false
set_option linter.unusedSimpArgs false
set_option linter.unusedSectionVars false
namespace Go.Av
open Go.Proofs
variable {W0 : World}
set_option maxRecDepth 10000
set_option maxHeartbeats 4000000
def IsRow (e : List AV) : Prop := ∃ k n a b vk, e = [.int .i64 k, .int .i64 n, .str a, .str b, vk] ∧ (vk = .slnil ∨ ∃ ks own, vk = .sl 1 (ints ks) own)
theorem IsRow.cln {e : List AV} (n m : Nat) (h : IsRow e) : IsRow (clnL n m e) := by
  obtain ⟨k, n', a, b, vk, rfl, h⟩ := h
  refine ⟨k, n', a, b, Av.cln n m vk, by simp, ?_⟩
  rcases h with rfl | ⟨ks, own, rfl⟩
  · exact .inl rfl
  · exact .inr ⟨ks, clnOwn m own, by simp⟩
theorem IsRow.ok {e : List AV} (h : IsRow e) : e.all okCell = true := by
  obtain ⟨k, n', a, b, vk, rfl, h⟩ := h
  rcases h with rfl | ⟨ks, own, rfl⟩ <;> simp
def Rows (es : List (List AV)) : Prop := ∀ e ∈ es, IsRow e
theorem Rows.ok {es : List (List AV)} (h : Rows es) : es.all (fun x => x.all okCell) = true := List.all_eq_true.2 fun e he => (h e he).ok
theorem Rows.cln (n m : Nat) : ∀ {es : List (List AV)}, Rows es → Rows (clnLL n m es)
  | [], _ => by intro e he; simp at he
  | e :: es, h => by
    intro x hx
    simp only [clnLL, List.mem_cons] at hx
    rcases hx with rfl | hx
    · exact (h e (by simp)).cln n m
    · exact Rows.cln n m (fun y hy => h y (by simp [hy])) x hx
theorem Rows.append {a b : List (List AV)} (h : Rows a) (k : Rows b) : Rows (a ++ b) := fun e he => (List.mem_append.1 he).elim (h e) (k e)
theorem App.appendK {T : Tab} {H0 H : Hp} {sz : Nat} {es fs : List (List AV)} {v x : AV} {t e : TypeId} {i : TI} (h : App H0 H sz es v) (g : Gr H0 H) (ht : T t = some ⟨1, .slice e, [.slnil]⟩) (he : T e = some i) (hi : i.size = sz) (hsz : 0 < sz)
    (hx : restA sz x = some fs) (hok : fs.all (·.all okCell) = true) (hl : es.length + fs.length ≤ 67108864) :
    ∃ v' H', appendA T H t t v x = some (v', H') ∧ App H0 H' sz (es ++ fs) v' ∧ Gr H0 H' ∧ H'.objs = H.objs ∧ ∀ sz2 es2 u, App H0 H sz2 es2 u → Parted v u → App H0 H' sz2 es2 u ∧ Parted v' u := by
  obtain ⟨v', H', e1, a1, g1, o1⟩ := h.append g ht he hi hsz hx hok hl
  refine ⟨v', H', e1, a1, g1, o1, fun sz2 es2 u h2 hp => ?_⟩
  obtain ⟨v2, H2, e2, _, _, _, b, p⟩ := h.append2 g ht he hi hsz hx hok hl h2 hp
  rw [e1] at e2
  cases e2
  exact ⟨b, p⟩
theorem set_same {α : Type} : ∀ {l : List α} {i : Nat} {x : α}, l[i]? = some x → l.set i x = l
  | [], _, _, h => by simp at h
  | y :: l, 0, x, h => by simp at h; simp [h]
  | y :: l, i + 1, x, h => by simp at h; simp [set_same h]
theorem set_twice {α : Type} : ∀ (l : List α) (i : Nat) (x y : α), (l.set i x).set i y = l.set i y
  | [], _, _, _ => rfl
  | _ :: _, 0, _, _ => rfl
  | _ :: l, i + 1, x, y => by simp
theorem holes_get : ∀ (l : List Tr) (i : Nat) (h : i < l.length), Tr.holes l = false → (l[i]).hole = false := by
  intro l
  induction l with
  | nil => intro i h; simp at h
  | cons t l ih => intro i h hl; simp only [Tr.holes, Bool.or_eq_false_iff] at hl; cases i with
    | zero => exact hl.1
    | succ i => simpa using ih i (by simpa using h) hl.2
theorem App.cln {H0 H : Hp} {sz : Nat} {es : List (List AV)} {v : AV} (h : App H0 H sz es v) (n m : Nat) (os : List AObj) (hm : H.hi.length ≤ m) : App H0 ⟨os, H.hi.take m⟩ sz (clnLL n m es) (Av.cln n m v) := by
  rcases h.is with ⟨rfl, rfl⟩ | rfl | ⟨k, h1, rfl, h3⟩
  · exact ⟨.inl ⟨rfl, rfl⟩⟩
  · exact ⟨.inr (.inl (by simp))⟩
  · have : k < H.hi.length := by
      rcases Nat.lt_or_ge k H.hi.length with q | q
      · exact q
      · simp [List.getElem?_eq_none q] at h3
    have hkm : k < m := by omega
    exact ⟨.inr (.inr ⟨k, h1, by simp [hkm], by simp [clnLL_length, List.getElem?_take, hkm, h3]⟩)⟩
theorem Parted.cln {v u : AV} (n m : Nat) (h : Parted v u) : Parted (Av.cln n m v) u := by
  intro s1 e1 k1 s2 e2 k2 q1 q2
  cases v <;> simp at q1 <;> try (split at q1 <;> cases q1; done)
  rename_i sz es own
  cases own with
  | tok t =>
    simp only [clnOwn] at q1
    split at q1
    · have := q1.2.2; cases this; exact h _ _ _ _ _ _ rfl q2
    · cases q1.2.2
  | capped => cases q1.2.2
  | shut => cases q1.2.2
theorem sf143 (H0 : Hp) (ra rt : Nat) (hra : H0.objs.length ≤ ra) (hrt : H0.objs.length ≤ rt) (hne : ra ≠ rt) : ∀ (N : Nat) (t : Tr) (H : Hp) (es : List (List AV)) (v : AV), t.cnt ≤ N → es.length + t.cnt ≤ 67108864 → t.slim → t.hole = false →
    Gr H0 H → H.objs[ra]? = some (.cells [.fn 143 [.ref ra 0, .ref rt 0]]) → H.objs[rt]? = some (.cells [v]) → App H0 H 5 es v → Rows es →
    SF Tryz.prog W0 143 [t.av, .ref ra 0, .ref rt 0] H fun r H' => ∃ es' v', (∃ x, r = .int .i64 x) ∧ H'.objs = H.objs.set rt (.cells [v']) ∧ Gr H0 H' ∧ App H0 H' 5 es' v' ∧ es'.length = es.length + t.cnt ∧ Rows es' ∧
      (∀ sz us u, App H0 H sz us u → Parted v u → App H0 H' sz us u ∧ Parted v' u) := by
  intro N
  induction N with
  | zero =>
    intro t H es v hN hc hs hh
    cases t with
    | none => simp [Tr.hole] at hh
    | node k n a b l => simp [Tr.cnt] at hN
  | succ N ih =>
    intro t H es0 v0 hN hc hs hh hg0 ha ht hap hrow
    refine SF.cut (sf_start [4] 53 Tryz.func143 rfl rfl rfl (by decide) (by simp) ?_)
    cases t with
    | none => simp [Tr.hole] at hh
    | node k n a b l =>
      simp only [Tr.av]
      simp only [Tr.cnt] at hN hc
      simp only [Tr.slim] at hs
      simp only [Tr.hole] at hh
      have hs1 := hs.1
      have hlt : rt < H.objs.length := by
        rcases Nat.lt_or_ge rt H.objs.length with q | q
        · exact q
        · simp [List.getElem?_eq_none q] at ht
      have hlta : ra < H.objs.length := by
        rcases Nat.lt_or_ge ra H.objs.length with q | q
        · exact q
        · simp [List.getElem?_eq_none q] at ha
      repeat' first
        | refine aSq ?_ | refine aBl ?_
        | (refine dr 1 [(0, true), (1, true), (2, true), (3, true), (4, true), (5, true), (6, true), (7, true), (8, true), (9, true), (10, true), (11, true), (12, true), (13, true), (14, true), (15, true), (16, true), (17, false), (18, false)] [17, 18] ?_; refine dh 17 ?_; refine dx ?_)
        | refine ru ?_
        | fail
      refine awp_loop_inv (fun m st => ∃ (i : Nat) (es : List (List AV)) (ks : List Int) (v vk : AV) (Hc : Hp), m = l.length - i ∧ i ≤ l.length ∧ es.length = es0.length + Tr.cnts (l.take i) ∧ ks.length = i ∧
        Hc.objs = H.objs.set rt (.cells [v]) ++ [.cells [.int .i64 k, .int .i64 n, .str a, .str b, vk]] ∧ Gr H0 Hc ∧ App H0 Hc 5 es v ∧ Rows es ∧ App H0 Hc 1 (ints ks) vk ∧ okCell vk = true ∧ Parted v vk ∧
        (∀ sz us u, App H0 H sz us u → Parted v0 u → App H0 Hc sz us u ∧ Parted v u ∧ Parted vk u) ∧
        Sub st ⟨53, [(5, .ref H.objs.length 0), (30, .int .i64 i), (29, .int .i64 l.length), (28, .sl 1 (Tr.avs l) .shut), (1, .ref ra 0), (2, .ref rt 0)], Hc⟩) l.length
        ⟨0, es0, [], v0, .slnil, _, by simp, by simp, by simp [Tr.cnts], by simp, by simp [set_same ht], hg0.obj _, hap.same rfl, hrow, App.slnil _ _ _, rfl, (Parted.slnil _).symm, fun sz us u h1 h2 => ⟨h1.same rfl, h2, Parted.slnil _⟩, rfl, rfl, only_cons (by simp) (only_cons (by simp) (only_cons (by simp) (only_cons (by simp) (only_cons (by simp) (only_cons (by simp) only_nil)))))⟩ ?_
      rintro m st ⟨i, es, ks, v, vk, Hc, rfl, hi, hel, hkl, hob, hg, a1, hrw, a2, hko, hpt, hkeep, hs2⟩
      refine awp_sub hs2 ?_
      clear hs2 st
      have h3 : ∀ h : i < l.length, es.length + (l[i]).cnt + 1 ≤ 67108864 := fun h => by
        have := Tr.cnts_take l i h; have := Tr.cnts_take_le l (i + 1); omega
      have h1 := Tr.cnts_take_le l i
      have hca : Hc.objs[ra]? = some (.cells [.fn 143 [.ref ra 0, .ref rt 0]]) := by
        rw [hob, List.getElem?_append_left (by simpa using hlta), List.getElem?_set_ne (Ne.symm hne)]; exact ha
      have hct : Hc.objs[rt]? = some (.cells [v]) := by
        rw [hob, List.getElem?_append_left (by simpa using hlt), List.getElem?_set_self hlt]
      have hcc : Hc.objs[H.objs.length]? = some (.cells [.int .i64 k, .int .i64 n, .str a, .str b, vk]) := by
        rw [hob, List.getElem?_append_right (by simp)]; simp
      repeat' first
        | refine aSq ?_ | refine aRt ?_ | refine aSk ?_ | refine aEx ?_ | refine aBl ?_ | refine tN ?_
        | (refine awp_drawJ (id := 5) (fun X => X.objs[ra]? = some (.cells [.fn 143 [.ref ra 0, .ref rt 0]]) ∧ X.objs[H.objs.length]? = some (.cells [.int .i64 k, .int .i64 n, .str a, .str b, vk])) [(0, true), (1, true), (2, true), (3, true), (4, false), (5, false), (6, false), (7, true), (8, false)] [8] tab_ok mixedT (by decide +kernel) ⟨hca, hcc⟩ ?_; refine adj_fix (mu := mu0) rfl (by decide +kernel) rfl ⟨hca, hcc⟩ (fun X hX => by simp; rfl) ?_; refine adj_fix (mu := mu0) rfl (by decide +kernel) rfl ⟨hca, hcc⟩ (fun X hX => by simp [hX.2]; rfl) ?_; refine adj_fix (mu := mu0) rfl (by decide +kernel) rfl ⟨hca, hcc⟩ (fun X hX => by simp [hX.1]; rfl) ?_; refine adj_fix (mu := mu0) rfl (by decide +kernel) rfl ⟨hca, hcc⟩ (fun X hX => by simp; rfl) ?_; refine adj_val (f := 143) (caps := [.ref ra 0, .ref rt 0]) rfl rfl rfl rfl rfl (by simp) en143 (by simp; rfl) ?_; have h4 := h3 (by assumption); refine (ih _ Hc es v (by have := Tr.cnts_le l i (by assumption); omega) (by omega) (Tr.slims_get _ _ _ hs.2) (holes_get l i (by assumption) hh) hg hca hct a1 hrw).mono ?_; rintro r H1 ⟨es', v', ⟨x, rfl⟩, ho1, hg1, a3, hl3, hr3, hk3⟩; (have hca1 : H1.objs[ra]? = some (.cells [.fn 143 [.ref ra 0, .ref rt 0]]) := by rw [ho1, List.getElem?_set_ne (Ne.symm hne)]; exact hca); (have hcc1 : H1.objs[H.objs.length]? = some (.cells [.int .i64 k, .int .i64 n, .str a, .str b, vk]) := by rw [ho1, List.getElem?_set_ne (by omega)]; exact hcc); obtain ⟨a4, p4⟩ := hk3 _ _ _ a2 hpt; refine ⟨.inr ⟨hca1, hcc1⟩, ?_⟩; refine adj_step (mu := mu0) (H' := H1) tab_ok rfl (by simp; rfl) (.inr ⟨hca1, hcc1⟩) ?_; obtain ⟨vk', H2, e2, a5, g5, o5, k5⟩ := a4.appendK (T := tab) hg1 (x := .sl 1 [[.int .i64 x]] .capped) (fs := [[.int .i64 x]]) (t := 33) (e := 3) tab33 tab3 rfl (by decide) (by simp) (by simp) (by simp; omega); (have hca2 : H2.objs[ra]? = some (.cells [.fn 143 [.ref ra 0, .ref rt 0]]) := by rw [o5]; exact hca1); (have hcc2 : H2.objs[H.objs.length]? = some (.cells [.int .i64 k, .int .i64 n, .str a, .str b, vk]) := by rw [o5]; exact hcc1); refine adj_step (mu := mu0) (H' := H2) tab_ok rfl (by simp [e2]; rfl) (.inr ⟨hca2, hcc2⟩) ?_; refine adj_fix (mu := mu0) rfl (by decide +kernel) rfl ⟨hca2, hcc2⟩ (fun X hX => by simp; rfl) ?_; refine adj_step (mu := mu0) (y := .tuple []) (H' := ⟨H1.objs.set H.objs.length (.cells [.int .i64 k, .int .i64 n, .str a, .str b, vk']), H2.hi⟩) tab_ok rfl (by simp [o5, hcc1, a5.cells, a5.okc]) (.inl rfl) ?_; refine adj_nil ?_)
        | (refine rg 7 ?_; refine aops_take 4 (mu := mu0) tab_ok (by simp [hct, hcc]; rfl) ?_; obtain ⟨v2, H2, e2, a5, g5, o5, k5⟩ := a1.appendK (T := tab) hg (x := .sl 5 [[.int .i64 k, .int .i64 n, .str a, .str b, vk]] .capped) (fs := [[.int .i64 k, .int .i64 n, .str a, .str b, vk]]) (t := 137) (e := 192) tab137 tab192 rfl (by decide) (by simp) (by simp [hko]) (by simp; omega); refine aops_take 3 (mu := mu0) tab_ok (by simp [e2, o5, hct, a5.cells, a5.okc]; rfl) ?_; refine dn ?_)
        | (have hct2 : (Hc.objs.set rt (.cells [v2]))[rt]? = some (.cells [v2]) := List.getElem?_set_self (by rw [hob]; simp; omega); refine awp_run (mu := mu0) tab_ok (by simp [hct2, a5.len tab137]; rfl) ?_)
        | refine ru ?_
        | (refine awp_if rfl (fun hb => ?_) (fun hb => ?_) <;> (try simp at hb) <;> try (exfalso; omega))
        | fail
      · have h5 := Tr.cnts_take l i (by assumption)
        obtain ⟨b3, p3⟩ := k5 _ _ _ a3 p4.symm
        have hgl : H0.objs.length ≤ H.objs.length := by omega
        refine ⟨l.length - (i + 1), by omega, i + 1, es', ks ++ [x], v', vk', ⟨H1.objs.set H.objs.length (.cells [.int .i64 k, .int .i64 n, .str a, .str b, vk']), H2.hi⟩, rfl, by omega, by omega, by simp [hkl], ?_, ?_, b3.same rfl, hr3, by rw [ints_append]; exact a5.same rfl, a5.okc, p3.symm, ?_, rfl, rfl, ?_⟩
        · rw [ho1, hob, List.set_append_left _ _ (by simpa using hlt), set_twice]
          have hgt : H.objs.length = (H.objs.set rt (.cells [v'])).length := by simp
          rw [hgt, set_concat]
        · have := g5.set hgl (.cells [.int .i64 k, .int .i64 n, .str a, .str b, vk'])
          rwa [o5] at this
        · intro sz us u h6 h7
          obtain ⟨q1, q2, q3⟩ := hkeep sz us u h6 h7
          obtain ⟨q4, q5⟩ := hk3 sz us u q1 q2
          obtain ⟨q6, q7⟩ := k5 sz us u q4 q3
          exact ⟨q6.same rfl, q5, q7⟩
        · exact only_cons (by simp) (only_cons (by simp (disch := omega)) (only_cons (by simp) (only_cons (by simp) (only_cons (by simp) (only_cons (by simp) only_nil)))))
      · refine ⟨max H.hi.length H2.hi.length, Nat.le_max_left _ _, fun hold => ?_⟩
        have hm : H2.hi.length ≤ max H.hi.length H2.hi.length := Nat.le_max_right _ _
        generalize max H.hi.length H2.hi.length = m at *
        have ht2 : H2.hi.take m = H2.hi := List.take_of_length_le hm
        have hrows : Rows (es ++ [[.int .i64 k, .int .i64 n, .str a, .str b, vk]]) := hrw.append fun e he => by
          simp only [List.mem_singleton] at he
          subst he
          refine ⟨k, n, a, b, vk, rfl, ?_⟩
          rcases a2.is with ⟨rfl, _⟩ | rfl | ⟨k, _, rfl, _⟩
          · exact .inl rfl
          · exact .inr ⟨ks, _, rfl⟩
          · exact .inr ⟨ks, _, rfl⟩
        refine ⟨_, Av.cln H.objs.length m v2, ⟨IntKind.i64.wrap ((es ++ [[AV.int IntKind.i64 k, AV.int IntKind.i64 n, AV.str a, AV.str b, vk]]).length - 1), by simp⟩, ?_, ?_, a5.cln H.objs.length m _ hm, ?_, hrows.cln _ _, ?_⟩
        · have e1 : (Hc.objs.set rt (.cells [v2])).take H.objs.length = H.objs.set rt (.cells [v2]) := by
            rw [hob, List.set_append_left _ _ (by simpa using hlt), set_twice]
            exact List.take_left' (by simp)
          simp only [e1, List.map_set, hold]
          simp [clnO, clnL]
        · refine ⟨?_, ?_⟩
          · have e1 : (Hc.objs.set rt (.cells [v2])).take H.objs.length = H.objs.set rt (.cells [v2]) := by
              rw [hob, List.set_append_left _ _ (by simpa using hlt), set_twice]
              exact List.take_left' (by simp)
            simp only [e1, List.map_set, hold]
            rw [List.take_set_of_le hrt]; exact hg0.objs
          · simp only [ht2]; exact g5.hi
        · have hil : i = l.length := by omega
          rw [clnLL_length]; simp [hel, Tr.cnt, hil]; omega
        · intro sz us u h6 h7
          obtain ⟨q1, q2, q3⟩ := hkeep sz us u h6 h7
          obtain ⟨q6, q7⟩ := k5 sz us u q1 q2
          exact ⟨q6.same (by simp only [ht2]), q7.cln _ _⟩
end Go.Av
namespace Go.Av
open Go.Proofs
variable {W0 : World}
set_option maxRecDepth 10000
set_option maxHeartbeats 4000000
@[simp] theorem get_app_add {α : Type} (l m : List α) (k : Nat) : (l ++ m)[l.length + k]? = m[k]? := by
  rw [List.getElem?_append_right (by omega)]; congr 1; omega
@[simp] theorem get_app_zero {α : Type} (l m : List α) : (l ++ m)[l.length]? = m[0]? := by
  rw [List.getElem?_append_right (by omega)]; congr 1; omega
@[simp] theorem set_app_add {α : Type} (l m : List α) (k : Nat) (x : α) : (l ++ m).set (l.length + k) x = l ++ m.set k x := by
  rw [List.set_append_right _ _ (by omega)]; congr 2; omega
@[simp] theorem set_app_zero {α : Type} (l m : List α) (x : α) : (l ++ m).set l.length x = l ++ m.set 0 x := by
  rw [List.set_append_right _ _ (by omega)]; congr 2; omega
end Go.Av
namespace Go.Av
open Go.Proofs
variable {W0 : World}
set_option maxRecDepth 10000
set_option maxHeartbeats 4000000
def validR (r : Int) : Bool := decide ((0 ≤ r ∧ r < 55296) ∨ (57343 < r ∧ r ≤ 1114111))
theorem sf163 {r : Int} {H : Hp} : SF Tryz.prog W0 163 [.int .i32 r] H fun x H' => H' = H ∧ x = .bool (validR r) := by
  refine SF.pureLe (sf_start [2] 17 Tryz.func163 rfl rfl rfl (by decide) (by simp) ?_)
  repeat' first
    | refine aSq ?_ | refine aRt ?_ | refine aSk ?_ | refine aBl ?_ | refine tN ?_ | refine tR ?_ | refine iR ?_
    | (refine rg 1 ?_; refine tk 2 ?_; (first | (refine te (fun hb => ?_) (fun hb => ?_) <;> (try simp at hb) <;> try (exfalso; omega)) | (refine tk 1 ?_)); all_goals (refine tk 4 ?_; refine dn ?_))
    | (refine rg 3 ?_; refine tk 2 ?_; (first | (refine te (fun hb => ?_) (fun hb => ?_) <;> (try simp at hb) <;> try (exfalso; omega)) | (refine tk 1 ?_)); all_goals (refine tk 4 ?_; refine dn ?_))
    | refine ru ?_
    | (refine awp_if rfl (fun hb => ?_) (fun hb => ?_) <;> (try simp at hb) <;> try (exfalso; omega))
    | fail
  all_goals (simp only [retQ]; refine ⟨Gr.refl _, _, Le.refl _, ?_⟩; simp [validR]; omega)
theorem sf122 {r : Int} {H : Hp} : SF Tryz.prog W0 122 [.int .i32 r] H fun x H' => H' = H ∧ x = .int .i64 (cls r) := by
  refine SF.pureLe (sf_start [2] 43 Tryz.func122 rfl rfl rfl (by decide) (by simp) ?_)
  repeat' first
    | refine aSq ?_ | refine aRt ?_ | refine aSk ?_ | refine aBl ?_ | refine tN ?_ | refine tR ?_ | refine iR ?_
    | (refine rg 1 ?_; refine tk 2 ?_; (first | (refine te (fun hb => ?_) (fun hb => ?_) <;> (try simp at hb) <;> try (exfalso; omega)) | (refine tk 1 ?_)); all_goals (refine tk 4 ?_; refine dn ?_))
    | (refine rg 2 ?_; refine tk 2 ?_; (first | (refine te (fun hb => ?_) (fun hb => ?_) <;> (try simp at hb) <;> try (exfalso; omega)) | (refine tk 1 ?_)); all_goals (refine tk 4 ?_; refine dn ?_))
    | (refine rg 5 ?_; refine tk 2 ?_; (first | (refine te (fun hb => ?_) (fun hb => ?_) <;> (try simp at hb) <;> try (exfalso; omega)) | (refine tk 1 ?_)); all_goals (refine tk 4 ?_; refine dn ?_))
    | (refine rg 11 ?_; refine tk 2 ?_; (first | (refine te (fun hb => ?_) (fun hb => ?_) <;> (try simp at hb) <;> try (exfalso; omega)) | (refine tk 1 ?_)); all_goals (refine tk 3 ?_; (first | (refine te (fun hb => ?_) (fun hb => ?_) <;> (try simp at hb) <;> try (exfalso; omega)) | (refine tk 1 ?_)); all_goals (refine tk 1 ?_; (first | (refine fg en163 ?_; refine SF.then sf163 ?_) | (refine tk 1 ?_)); refine tk 2 ?_; refine dn ?_)))
    | refine ru ?_
    | (refine awp_if rfl (fun hb => ?_) (fun hb => ?_) <;> (try simp at hb) <;> try (exfalso; omega))
    | fail
  all_goals (simp only [retQ]; refine ⟨Gr.refl _, .int .i64 (cls r), ?_, rfl⟩)
  all_goals (try simp only [validR, decide_eq_true_eq, decide_eq_false_iff_not] at *)
  all_goals (rw [show cls r = _ from by unfold cls; (repeat' split) <;> first | (exfalso; omega) | rfl]; simp)
theorem sf53 {r : Int} {H : Hp} : SF Tryz.prog W0 53 [.int .i32 r] H fun x H' => H' = H ∧ x = .int .i64 (cls r) := by
  refine SF.pureLe (sf_start [2] 55 Tryz.func53 rfl rfl rfl (by decide) (by simp) ?_)
  repeat' first
    | refine aSq ?_ | refine aRt ?_ | refine aSk ?_ | refine tN ?_ | refine tR ?_
    | (refine rg 1 ?_; refine tk 2 ?_; (first | (refine te (fun hb => ?_) (fun hb => ?_) <;> (try simp at hb) <;> try (exfalso; omega)) | (refine tk 1 ?_)); all_goals (refine tk 3 ?_; (first | (refine te (fun hb => ?_) (fun hb => ?_) <;> (try simp at hb) <;> try (exfalso; omega)) | (refine tk 1 ?_)); all_goals (refine tk 2 ?_; (first | (refine te (fun hb => ?_) (fun hb => ?_) <;> (try simp at hb) <;> try (exfalso; omega)) | (refine tk 1 ?_)); all_goals (refine tk 4 ?_; (first | (refine te (fun hb => ?_) (fun hb => ?_) <;> (try simp at hb) <;> try (exfalso; omega)) | (refine tk 1 ?_)); all_goals (refine tk 3 ?_; refine dn ?_)))))
    | (refine rg 3 ?_; refine tk 2 ?_; (first | (refine te (fun hb => ?_) (fun hb => ?_) <;> (try simp at hb) <;> try (exfalso; omega)) | (refine tk 1 ?_)); all_goals (refine tk 3 ?_; refine dn ?_))
    | (refine rg 5 ?_; refine tk 2 ?_; (first | (refine te (fun hb => ?_) (fun hb => ?_) <;> (try simp at hb) <;> try (exfalso; omega)) | (refine tk 1 ?_)); all_goals (refine tk 3 ?_; (first | (refine te (fun hb => ?_) (fun hb => ?_) <;> (try simp at hb) <;> try (exfalso; omega)) | (refine tk 1 ?_)); all_goals (refine tk 3 ?_; refine dn ?_)))
    | (refine rg 7 ?_; refine tk 2 ?_; (first | (refine te (fun hb => ?_) (fun hb => ?_) <;> (try simp at hb) <;> try (exfalso; omega)) | (refine tk 1 ?_)); all_goals (refine tk 3 ?_; (first | (refine te (fun hb => ?_) (fun hb => ?_) <;> (try simp at hb) <;> try (exfalso; omega)) | (refine tk 1 ?_)); all_goals (refine tk 3 ?_; (first | (refine te (fun hb => ?_) (fun hb => ?_) <;> (try simp at hb) <;> try (exfalso; omega)) | (refine tk 1 ?_)); all_goals (refine tk 2 ?_; (first | (refine te (fun hb => ?_) (fun hb => ?_) <;> (try simp at hb) <;> try (exfalso; omega)) | (refine tk 1 ?_)); all_goals (refine tk 4 ?_; refine dn ?_)))))
    | refine ru ?_
    | (refine awp_if rfl (fun hb => ?_) (fun hb => ?_) <;> (try simp at hb) <;> try (exfalso; omega))
    | fail
  all_goals (simp only [retQ]; refine ⟨Gr.refl _, .int .i64 (cls r), ?_, rfl⟩)
  all_goals (rw [show cls r = _ from by unfold cls; (repeat' split) <;> first | (exfalso; omega) | rfl]; simp)
end Go.Av
namespace Go.Av
open Go.Proofs
open Go.Lib (decodeL decodeL_N decodeN)
variable {W0 : World}
set_option maxRecDepth 10000
set_option maxHeartbeats 4000000
def nextR (l : Str) : Nat × Nat := if (decodeL l).1 = 65533 ∧ (decodeL l).2 = 1 then (0, 0) else decodeL l
@[simp] theorem wrap32 {n : Int} (h1 : -2147483648 ≤ n) (h2 : n < 2147483648) : IntKind.i32.wrap n = n := by
  unfold IntKind.wrap; simp [IntKind.bits, IntKind.signed]; omega
@[simp] theorem wrap64_u8 (b : UInt8) : IntKind.i64.wrap (b.toNat : Int) = b.toNat := by
  have := UInt8.toNat_lt b
  exact wrap64 (by omega) (by omega)
def NextS (n b0 b1 b2 b3 p q : Nat) : Prop :=
    (b0 < 128 ∧ p = b0 ∧ q = 1) ∨
    (194 ≤ b0 ∧ b0 < 224 ∧ 2 ≤ n ∧ 128 ≤ b1 ∧ b1 ≤ 191 ∧ p + 128 = 64 * (b0 - 192) + b1 ∧ q = 2) ∨
    (224 ≤ b0 ∧ b0 < 240 ∧ 3 ≤ n ∧ 128 ≤ b1 ∧ b1 ≤ 191 ∧ 128 ≤ b2 ∧ b2 ≤ 191 ∧ p + 128 + 8192 = 4096 * (b0 - 224) + 64 * b1 + b2 ∧ 2048 ≤ p ∧ (p < 55296 ∨ 57343 < p) ∧ q = 3) ∨
    (240 ≤ b0 ∧ b0 < 245 ∧ 4 ≤ n ∧ 128 ≤ b1 ∧ b1 ≤ 191 ∧ 128 ≤ b2 ∧ b2 ≤ 191 ∧ 128 ≤ b3 ∧ b3 ≤ 191 ∧ p + 128 + 8192 + 524288 = 262144 * (b0 - 240) + 4096 * b1 + 64 * b2 + b3 ∧ 65536 ≤ p ∧ p ≤ 1114111 ∧ q = 4) ∨
    (p = 0 ∧ q = 0 ∧ 128 ≤ b0 ∧ (194 ≤ b0 ∧ b0 < 224 → n < 2 ∨ b1 < 128 ∨ 191 < b1) ∧
      (224 ≤ b0 ∧ b0 < 240 → n < 3 ∨ b1 < 128 ∨ 191 < b1 ∨ b2 < 128 ∨ 191 < b2 ∨ 4096 * (b0 - 224) + 64 * b1 + b2 < 2048 + 128 + 8192 ∨ (55296 + 128 + 8192 ≤ 4096 * (b0 - 224) + 64 * b1 + b2 ∧ 4096 * (b0 - 224) + 64 * b1 + b2 ≤ 57343 + 128 + 8192)) ∧
      (240 ≤ b0 ∧ b0 < 245 → n < 4 ∨ b1 < 128 ∨ 191 < b1 ∨ b2 < 128 ∨ 191 < b2 ∨ b3 < 128 ∨ 191 < b3 ∨ 262144 * (b0 - 240) + 4096 * b1 + 64 * b2 + b3 < 65536 + 128 + 8192 + 524288 ∨ 1114111 + 128 + 8192 + 524288 < 262144 * (b0 - 240) + 4096 * b1 + 64 * b2 + b3))
theorem next_spec {n b0 b1 b2 b3 p q : Nat} (hn : 1 ≤ n) (h0 : b0 < 256) (h1 : b1 < 256) (h2 : b2 < 256) (h3 : b3 < 256)
    (h : (if (decodeN n b0 b1 b2 b3).1 = 65533 ∧ (decodeN n b0 b1 b2 b3).2 = 1 then (0, 0) else decodeN n b0 b1 b2 b3) = (p, q)) :
    NextS n b0 b1 b2 b3 p q := by
  have e1 : (b0 / 32 = 6) = (192 ≤ b0 ∧ b0 < 224) := propext ⟨fun _ => by omega, fun _ => by omega⟩
  have e2 : (b0 / 16 = 14) = (224 ≤ b0 ∧ b0 < 240) := propext ⟨fun _ => by omega, fun _ => by omega⟩
  have e3 : (b0 / 8 = 30) = (240 ≤ b0 ∧ b0 < 248) := propext ⟨fun _ => by omega, fun _ => by omega⟩
  have f : ∀ b, b < 256 → (b / 64 = 2) = (128 ≤ b ∧ b ≤ 191) := fun b _ => propext ⟨fun _ => by omega, fun _ => by omega⟩
  have m : ∀ b, 128 ≤ b → b ≤ 191 → b % 64 = b - 128 := fun b _ _ => by omega
  obtain ⟨x, y, hd⟩ : ∃ x y, decodeN n b0 b1 b2 b3 = (x, y) := ⟨_, _, rfl⟩
  rw [hd] at h
  simp only at h
  unfold decodeN at hd
  simp only [e1, e2, e3, f b1 h1, f b2 h2, f b3 h3] at hd
  clear e1 e2 e3 f
  split at hd
  · cases hd
    rw [if_neg (by omega)] at h
    cases h
    exact .inl ⟨by assumption, rfl, rfl⟩
  split at hd
  · rename_i c0 c
    obtain ⟨⟨c1, c2⟩, c3, c4, c5⟩ := c
    have m0 : b0 % 32 = b0 - 192 := by omega
    rw [m0, m b1 c4 c5] at hd
    split at hd
    · cases hd
      rw [if_neg (by omega)] at h
      cases h
      exact .inr (.inl ⟨by omega, c2, c3, c4, c5, by omega, rfl⟩)
    · cases hd
      rw [if_pos ⟨rfl, rfl⟩] at h
      cases h
      exact .inr (.inr (.inr (.inr ⟨rfl, rfl, by omega, fun _ => by omega, fun _ => by omega, fun _ => by omega⟩)))
  split at hd
  · rename_i c0 c9 c
    obtain ⟨⟨c1, c2⟩, ⟨c3, c4, c5⟩, c6, c7, c8⟩ := c
    have m0 : b0 % 16 = b0 - 224 := by omega
    rw [m0, m b1 c4 c5, m b2 c7 c8] at hd
    split at hd
    · rename_i c10
      cases hd
      rw [if_neg (by omega)] at h
      cases h
      exact .inr (.inr (.inl ⟨c1, c2, c6, c4, c5, c7, c8, by omega, c10.1, by omega, rfl⟩))
    · cases hd
      rw [if_pos ⟨rfl, rfl⟩] at h
      cases h
      exact .inr (.inr (.inr (.inr ⟨rfl, rfl, by omega, fun _ => by omega, fun _ => by omega, fun _ => by omega⟩)))
  split at hd
  · rename_i c0 c9 c9' c
    obtain ⟨⟨c1, c2⟩, ⟨c3, c4, c5⟩, ⟨c6, c7, c8⟩, c11, c12, c13⟩ := c
    have m0 : b0 % 8 = b0 - 240 := by omega
    rw [m0, m b1 c4 c5, m b2 c7 c8, m b3 c12 c13] at hd
    split at hd
    · rename_i c10
      cases hd
      rw [if_neg (by omega)] at h
      cases h
      exact .inr (.inr (.inr (.inl ⟨c1, by omega, c11, c4, c5, c7, c8, c12, c13, by omega, c10.1, by omega, rfl⟩)))
    · cases hd
      rw [if_pos ⟨rfl, rfl⟩] at h
      cases h
      exact .inr (.inr (.inr (.inr ⟨rfl, rfl, by omega, fun _ => by omega, fun _ => by omega, fun _ => by omega⟩)))
  · cases hd
    rw [if_pos ⟨rfl, rfl⟩] at h
    cases h
    exact .inr (.inr (.inr (.inr ⟨rfl, rfl, by omega, fun _ => by omega, fun _ => by omega, fun _ => by omega⟩)))
theorem sf95 {s : Str} {i : Nat} {H : Hp} (hi : i < s.length) (hs : s.length ≤ 67108864) :
    SF Tryz.prog W0 95 [.str s, .int .i64 i] H fun r H' => H' = H ∧ r = .tuple [.int .i32 (nextR (s.drop i)).1, .int .i64 (nextR (s.drop i)).2] := by
  refine SF.pureLe (sf_start [4, 5] 94 Tryz.func95 rfl rfl rfl (by decide) (by simp) ?_)
  obtain ⟨j1, hj1⟩ : ∃ j : Nat, (i : Int) + 1 = j := ⟨i + 1, rfl⟩
  obtain ⟨j2, hj2⟩ : ∃ j : Nat, (i : Int) + 2 = j := ⟨i + 2, rfl⟩
  obtain ⟨j3, hj3⟩ : ∃ j : Nat, (i : Int) + 3 = j := ⟨i + 3, rfl⟩
  obtain ⟨b0, hb0⟩ : ∃ b, (s.getD i 0).toNat = b := ⟨_, rfl⟩
  obtain ⟨b1, hb1⟩ : ∃ b, (s.getD j1 0).toNat = b := ⟨_, rfl⟩
  obtain ⟨b2, hb2⟩ : ∃ b, (s.getD j2 0).toNat = b := ⟨_, rfl⟩
  obtain ⟨b3, hb3⟩ : ∃ b, (s.getD j3 0).toNat = b := ⟨_, rfl⟩
  obtain ⟨p, q, hpq⟩ : ∃ p q, nextR (s.drop i) = (p, q) := ⟨_, _, rfl⟩
  have hd : ∀ k, (s.drop i).getD k 0 = s.getD (i + k) 0 := fun k => by simp [List.getD_eq_getElem?_getD, List.getElem?_drop]
  have hk := hpq
  rw [nextR, decodeL_N, hd, hd, hd, hd, Nat.add_zero, List.length_drop, show i + 1 = j1 by omega, show i + 2 = j2 by omega, show i + 3 = j3 by omega, hb0, hb1, hb2, hb3] at hk
  have hk := next_spec (by omega) (hb0 ▸ UInt8.toNat_lt _) (hb1 ▸ UInt8.toNat_lt _) (hb2 ▸ UInt8.toNat_lt _) (hb3 ▸ UInt8.toNat_lt _) hk
  have l0 : b0 < 256 := hb0 ▸ UInt8.toNat_lt _
  have l1 : b1 < 256 := hb1 ▸ UInt8.toNat_lt _
  have l2 : b2 < 256 := hb2 ▸ UInt8.toNat_lt _
  have l3 : b3 < 256 := hb3 ▸ UInt8.toNat_lt _
  have g0 : ∀ h : i < s.length, (s[i]'h).toNat = b0 := fun h => by rw [← hb0, List.getD_eq_getElem?_getD, List.getElem?_eq_getElem h]; rfl
  have g1 : ∀ h : j1 < s.length, (s[j1]'h).toNat = b1 := fun h => by rw [← hb1, List.getD_eq_getElem?_getD, List.getElem?_eq_getElem h]; rfl
  have g2 : ∀ h : j2 < s.length, (s[j2]'h).toNat = b2 := fun h => by rw [← hb2, List.getD_eq_getElem?_getD, List.getElem?_eq_getElem h]; rfl
  have g3 : ∀ h : j3 < s.length, (s[j3]'h).toNat = b3 := fun h => by rw [← hb3, List.getD_eq_getElem?_getD, List.getElem?_eq_getElem h]; rfl
  rw [hpq]
  clear hpq hd hb0 hb1 hb2 hb3
  repeat' first
    | refine aSq ?_ | refine aRt ?_ | refine aSk ?_ | refine aEx ?_ | refine aBl ?_ | refine tN ?_ | refine tR ?_ | refine iR ?_
    | (refine rg 7 ?_; refine tk 2 ?_ (by simp (disch := omega) [hj1, hj2, hj3, g0, g1, g2, g3]; with_reducible rfl); (first | (refine te (hs := (by simp (disch := omega) [hj1, hj2, hj3, g0, g1, g2, g3]; with_reducible rfl)) (fun hb => ?_) (fun hb => ?_) <;> (try simp at hb) <;> try (exfalso; omega)) | (refine tk 1 ?_ (by simp (disch := omega) [hj1, hj2, hj3, g0, g1, g2, g3]; with_reducible rfl))); all_goals (refine tk 3 ?_ (by simp (disch := omega) [hj1, hj2, hj3, g0, g1, g2, g3]; with_reducible rfl); refine dn ?_))
    | (refine rg 11 ?_; refine tk 2 ?_ (by simp (disch := omega) [hj1, hj2, hj3, g0, g1, g2, g3]; with_reducible rfl); (first | (refine te (hs := (by simp (disch := omega) [hj1, hj2, hj3, g0, g1, g2, g3]; with_reducible rfl)) (fun hb => ?_) (fun hb => ?_) <;> (try simp at hb) <;> try (exfalso; omega)) | (refine tk 1 ?_ (by simp (disch := omega) [hj1, hj2, hj3, g0, g1, g2, g3]; with_reducible rfl))); all_goals (refine tk 3 ?_ (by simp (disch := omega) [hj1, hj2, hj3, g0, g1, g2, g3]; with_reducible rfl); refine dn ?_))
    | (refine rg 15 ?_; refine tk 2 ?_ (by simp (disch := omega) [hj1, hj2, hj3, g0, g1, g2, g3]; with_reducible rfl); (first | (refine te (hs := (by simp (disch := omega) [hj1, hj2, hj3, g0, g1, g2, g3]; with_reducible rfl)) (fun hb => ?_) (fun hb => ?_) <;> (try simp at hb) <;> try (exfalso; omega)) | (refine tk 1 ?_ (by simp (disch := omega) [hj1, hj2, hj3, g0, g1, g2, g3]; with_reducible rfl))); all_goals (refine tk 3 ?_ (by simp (disch := omega) [hj1, hj2, hj3, g0, g1, g2, g3]; with_reducible rfl); refine dn ?_))
    | (refine rg 19 ?_; refine tk 2 ?_ (by simp (disch := omega) [hj1, hj2, hj3, g0, g1, g2, g3]; with_reducible rfl); (first | (refine te (hs := (by simp (disch := omega) [hj1, hj2, hj3, g0, g1, g2, g3]; with_reducible rfl)) (fun hb => ?_) (fun hb => ?_) <;> (try simp at hb) <;> try (exfalso; omega)) | (refine tk 1 ?_ (by simp (disch := omega) [hj1, hj2, hj3, g0, g1, g2, g3]; with_reducible rfl))); all_goals (refine tk 7 ?_ (by simp (disch := omega) [hj1, hj2, hj3, g0, g1, g2, g3]; with_reducible rfl); refine dn ?_))
    | (refine rg 25 ?_; refine tk 2 ?_ (by simp (disch := omega) [hj1, hj2, hj3, g0, g1, g2, g3]; with_reducible rfl); (first | (refine te (hs := (by simp (disch := omega) [hj1, hj2, hj3, g0, g1, g2, g3]; with_reducible rfl)) (fun hb => ?_) (fun hb => ?_) <;> (try simp at hb) <;> try (exfalso; omega)) | (refine tk 1 ?_ (by simp (disch := omega) [hj1, hj2, hj3, g0, g1, g2, g3]; with_reducible rfl))); all_goals (refine tk 3 ?_ (by simp (disch := omega) [hj1, hj2, hj3, g0, g1, g2, g3]; with_reducible rfl); refine dn ?_))
    | (refine rg 28 ?_; refine tk 3 ?_ (by simp (disch := omega) [hj1, hj2, hj3, g0, g1, g2, g3]; with_reducible rfl); (first | (refine te (hs := (by simp (disch := omega) [hj1, hj2, hj3, g0, g1, g2, g3]; with_reducible rfl)) (fun hb => ?_) (fun hb => ?_) <;> (try simp at hb) <;> try (exfalso; omega)) | (refine tk 1 ?_ (by simp (disch := omega) [hj1, hj2, hj3, g0, g1, g2, g3]; with_reducible rfl))); all_goals (refine tk 3 ?_ (by simp (disch := omega) [hj1, hj2, hj3, g0, g1, g2, g3]; with_reducible rfl); (first | (refine te (hs := (by simp (disch := omega) [hj1, hj2, hj3, g0, g1, g2, g3]; with_reducible rfl)) (fun hb => ?_) (fun hb => ?_) <;> (try simp at hb) <;> try (exfalso; omega)) | (refine tk 1 ?_ (by simp (disch := omega) [hj1, hj2, hj3, g0, g1, g2, g3]; with_reducible rfl))); all_goals (refine tk 2 ?_ (by simp (disch := omega) [hj1, hj2, hj3, g0, g1, g2, g3]; with_reducible rfl); (first | (refine te (hs := (by simp (disch := omega) [hj1, hj2, hj3, g0, g1, g2, g3]; with_reducible rfl)) (fun hb => ?_) (fun hb => ?_) <;> (try simp at hb) <;> try (exfalso; omega)) | (refine tk 1 ?_ (by simp (disch := omega) [hj1, hj2, hj3, g0, g1, g2, g3]; with_reducible rfl))); all_goals (refine tk 4 ?_ (by simp (disch := omega) [hj1, hj2, hj3, g0, g1, g2, g3]; with_reducible rfl); refine dn ?_))))
    | (refine ru ?_ (by simp (disch := omega) [hj1, hj2, hj3, g0, g1, g2, g3]; with_reducible rfl))
    | (refine awp_if rfl (fun hb => ?_) (fun hb => ?_) <;> (try simp at hb) <;> try (exfalso; omega))
    | refine awp_loop 4 ?_
  all_goals (unfold NextS at hk; simp only [retQ]; refine ⟨Gr.refl _, _, Le.refl _, ?_⟩; simp; omega)
end Go.Av
namespace Go.Av
open Go.Proofs
open Go.Lib (decodeL decodeL_width decodeL_le validD validD_step validD_nil)
variable {W0 : World}
set_option maxRecDepth 10000
set_option maxHeartbeats 4000000
def rns (l : List Nat) : List (List AV) := l.map fun (r : Nat) => [AV.int .i32 r]
@[simp] theorem rns_len (l : List Nat) : (rns l).length = l.length := by simp [rns]
@[simp] theorem rns_get (l : List Nat) (i : Nat) : (rns l)[i]? = (l[i]?).map fun (r : Nat) => [AV.int .i32 r] := by simp [rns]
@[simp] theorem rns_getE (l : List Nat) (i : Nat) (h : i < (rns l).length) : (rns l)[i] = [.int .i32 (l[i]'(by simpa using h))] := by simp [rns]
@[simp] theorem rns_ok (l : List Nat) : (rns l).all (fun x => x.all okCell) = true := by simp [rns]
@[simp] theorem rns_cln (n m : Nat) (l : List Nat) : clnLL n m (rns l) = rns l := clnLL_map (fun _ _ _ => rfl) n m l
theorem rns_append (a b : List Nat) : rns (a ++ b) = rns a ++ rns b := by simp [rns]
theorem sf51 {s : Str} {H : Hp} (hs : s.length ≤ 67108864) :
    SF Tryz.prog W0 51 [.str s] H fun r H' => H' = H ∧ r = (if validD s then .tuple [.sl 1 (rns (runes s)) .shut, .int .i64 0] else .tuple [.sl 1 [] .shut, .int .i64 4]) := by
  refine SF.pureLe (sf_start [2, 3] 28 Tryz.func51 rfl rfl rfl (by decide) (by simp) ?_)
  repeat' first
    | refine aSq ?_ | refine aBl ?_
    | refine ru ?_
    | fail
  refine awp_loop_inv (fun q st => ∃ (i : Nat) (pre : List Nat) (v : AV) (Hc : Hp), q = s.length - i ∧ i ≤ s.length ∧ pre.length ≤ i ∧ validD s = validD (s.drop i) ∧ runes s = pre ++ runes (s.drop i) ∧ Gr H Hc ∧ App H Hc 1 (rns pre) v ∧
    Sub st ⟨28, [(0, .str s), (4, v), (5, .int .i64 i)], Hc⟩) s.length
    ⟨0, [], .slnil, H, by simp, by simp, by simp, by simp, by simp, Gr.refl _, App.slnil _ _ _, rfl, rfl, only_cons (by simp) (only_cons (by simp) (only_cons (by simp) only_nil))⟩ ?_
  rintro q st ⟨i, pre, v, Hc, rfl, hi, hpl, hv, hr, hg, a1, hs2⟩
  refine awp_sub hs2 ?_
  clear hs2 st
  rcases Nat.lt_or_ge i s.length with hlt | hge
  · have hne : s.drop i ≠ [] := by intro h; have := congrArg List.length h; simp at this; omega
    have hw := decodeL_width (s.drop i)
    have hle := decodeL_le (s.drop i) hne
    rw [List.length_drop] at hle
    rw [validD_step _ hne] at hv
    rw [runes_step _ hne, List.drop_drop] at hr
    rw [List.drop_drop] at hv
    by_cases hbad : (decodeL (s.drop i)).1 = 65533 ∧ (decodeL (s.drop i)).2 = 1
    · rw [if_pos hbad] at hv
      have hn : nextR (s.drop i) = (0, 0) := if_pos hbad
      repeat' first
        | refine aSq ?_ | refine aRt ?_ | refine aSk ?_ | refine aBl ?_ | refine tN ?_ | refine tR ?_ | refine iR ?_
        | (refine rg 4 ?_; refine tk 2 ?_; refine fc en95 ?_; refine SF.then (sf95 hlt hs) ?_; simp only [hn]; refine tk 5 ?_; refine dn ?_)
        | refine ru ?_
        | (refine awp_if rfl (fun hb => ?_) (fun hb => ?_) <;> (try simp at hb) <;> try (exfalso; omega))
        | fail
      rw [if_neg (by rw [hv]; simp)]
      exact ⟨hg, .tuple [.sl 1 [] .shut, .int .i64 4], by simp, rfl⟩
    · rw [if_neg hbad] at hv
      have hn : nextR (s.drop i) = decodeL (s.drop i) := if_neg hbad
      obtain ⟨p, q, hd⟩ : ∃ p q, decodeL (s.drop i) = (p, q) := ⟨_, _, rfl⟩
      rw [hd] at hn hv hr hw hle
      simp only at hv hr hw hle
      repeat' first
        | refine aSq ?_ | refine aSk ?_ | refine aBl ?_ | refine tN ?_
        | (refine rg 4 ?_; refine tk 2 ?_; refine fc en95 ?_; refine SF.then (sf95 hlt hs) ?_; simp only [hn]; refine tk 5 ?_; refine dn ?_)
        | (refine rg 7 ?_; refine aops_take 3 (mu := mu0) tab_ok (by simp; rfl) ?_; obtain ⟨v', H', e1, a2, g2, ho2⟩ := a1.append (T := tab) hg (x := .sl 1 [[.int .i32 p]] .capped) (fs := [[.int .i32 p]]) (t := 109) (e := 21) tab109 tab21 rfl (by decide) (by simp) (by simp) (by simp; omega); refine aops_take 2 (mu := mu0) tab_ok (by simp [e1]; rfl) ?_; refine dn ?_)
        | refine ru ?_
        | (refine awp_if rfl (fun hb => ?_) (fun hb => ?_) <;> (try simp at hb) <;> try (exfalso; omega))
        | fail
      exact ⟨s.length - (i + q), by omega, i + q, pre ++ [p], v', H', rfl, by omega, by simp; omega, hv, by rw [hr]; simp, g2, by rw [rns_append]; exact a2, rfl, rfl, only_cons (by simp) (only_cons (by simp) (only_cons (by simp (disch := omega)) only_nil))⟩
  · have : i = s.length := by omega
    subst this
    simp only [List.drop_length, validD_nil, runes_nil, List.append_nil] at hv hr
    repeat' first
      | refine aSq ?_ | refine aRt ?_ | refine aEx ?_ | refine tN ?_
      | refine ru ?_
      | (refine awp_if rfl (fun hb => ?_) (fun hb => ?_) <;> (try simp at hb) <;> try (exfalso; omega))
      | fail
    rw [if_pos hv]
    exact ⟨hg, .tuple [.sl 1 (rns (runes s)) .shut, .int .i64 0], by rw [hr]; have q := a1.le'; simp at q; simp; exact .tuple (.cons q (.cons (.refl _) .nil)), rfl⟩
theorem nameRs_drop (l : List Nat) (i : Nat) (h : i < l.length) (f : Bool) : nameRs f (l.drop i) = (okR f l[i] && nameRs false (l.drop (i + 1))) := by
  rw [List.drop_eq_getElem_cons h]; rfl
theorem runesF_len : ∀ (n : Nat) (l : Str), (runesF n l).length ≤ n
  | 0, _ => by simp [runesF]
  | n + 1, l => by
    simp only [runesF]
    split
    · simp
    · simpa using runesF_len n _
theorem runes_len (s : Str) : (runes s).length ≤ s.length := runesF_len _ _
theorem sf135 {s : Str} {H : Hp} (hs : s.length ≤ 67108864) : SF Tryz.prog W0 135 [.str s] H fun r H' => H' = H ∧ r = .bool (nameB s) := by
  refine SF.pureLe (sf_start [2] 52 Tryz.func135 rfl rfl rfl (by decide) (by simp) ?_)
  by_cases hv : validD s = true
  · repeat' first
      | refine aSq ?_ | refine aRt ?_ | refine aSk ?_ | refine aBl ?_ | refine tN ?_ | refine tR ?_
      | (refine rg 1 ?_; refine tk 1 ?_; refine fc en51 ?_; refine SF.then (sf51 hs) ?_; simp only [hv, if_true]; refine tk 5 ?_; refine dn ?_)
      | (refine rg 2 ?_; refine tk 2 ?_; (first | (refine te (fun hb => ?_) (fun hb => ?_) <;> (try simp at hb) <;> try (exfalso; omega)) | (refine tk 1 ?_)); all_goals (refine tk 4 ?_; (first | (refine te (fun hb => ?_) (fun hb => ?_) <;> (try simp at hb) <;> try (exfalso; omega)) | (refine tk 1 ?_)); all_goals (refine tk 4 ?_; refine dn ?_)))
      | refine ru ?_
      | (refine awp_if rfl (fun hb => ?_) (fun hb => ?_) <;> (try simp at hb) <;> try (exfalso; omega))
      | fail
    · exact ⟨Gr.refl _, .bool false, by simp, by simp [nameB]; omega⟩
    · exact ⟨Gr.refl _, .bool false, by simp, by simp [nameB]; omega⟩
    have hlb : (decide (1 ≤ s.length ∧ s.length ≤ 32)) = true := by simp; omega
    have hrl := runes_len s
    refine awp_loop_inv (fun q st => ∃ i : Nat, q = (runes s).length - i ∧ i ≤ (runes s).length ∧ nameRs true (runes s) = nameRs (decide (i = 0)) ((runes s).drop i) ∧ Sub st ⟨52, [(5, .int .i64 i), (3, .sl 1 (rns (runes s)) .shut)], H⟩) (runes s).length ⟨0, by simp, by simp, by simp, ⟨rfl, rfl, only_cons (by simp) (only_cons (by simp) only_nil)⟩⟩ ?_
    rintro q st ⟨i, rfl, hi, hn, hs2⟩
    refine awp_sub hs2 ?_
    clear hs2 st
    rcases Nat.lt_or_ge i (runes s).length with hlt | hge
    · rw [nameRs_drop _ _ hlt] at hn
      repeat' first
        | refine aSq ?_ | refine aRt ?_ | refine aSk ?_ | refine aBl ?_ | refine tN ?_ | refine tR ?_ | refine iR ?_
        | (refine rg 7 ?_; refine tk 4 ?_; refine fc en53 ?_; refine SF.then sf53 ?_; refine tk 1 ?_; refine dn ?_)
        | (refine rg 8 ?_; refine tk 2 ?_; (first | (refine te (fun hb => ?_) (fun hb => ?_) <;> (try simp at hb) <;> try (exfalso; omega)) | (refine tk 1 ?_)); all_goals (refine tk 2 ?_; (first | (refine te (fun hb => ?_) (fun hb => ?_) <;> (try simp at hb) <;> try (exfalso; omega)) | (refine tk 1 ?_)); all_goals (refine tk 2 ?_; (first | (refine te (fun hb => ?_) (fun hb => ?_) <;> (try simp at hb) <;> try (exfalso; omega)) | (refine tk 1 ?_)); all_goals (refine tk 8 ?_; refine dn ?_))))
        | refine ru ?_
        | (refine awp_if rfl (fun hb => ?_) (fun hb => ?_) <;> (try simp at hb) <;> try (exfalso; omega))
        | fail
      all_goals first
        | (have ho : okR (decide (i = 0)) (runes s)[i] = false := by clear hn; simp_all [okR] <;> omega
           rw [ho] at hn
           exact ⟨Gr.refl _, .bool false, by simp, by simp [nameB, hn]⟩)
        | (have ho : okR (decide (i = 0)) (runes s)[i] = true := by clear hn; simp_all [okR] <;> omega
           rw [ho] at hn
           exact ⟨(runes s).length - (i + 1), by omega, i + 1, rfl, by omega, by simpa using hn, rfl, rfl, only_cons (by simp (disch := omega)) (only_cons (by simp) only_nil)⟩)
    · have : i = (runes s).length := by omega
      subst this
      simp only [List.drop_length, nameRs] at hn
      repeat' first
        | refine aSq ?_ | refine aRt ?_ | refine aEx ?_ | refine tN ?_
        | refine ru ?_
        | (refine awp_if rfl (fun hb => ?_) (fun hb => ?_) <;> (try simp at hb) <;> try (exfalso; omega))
        | fail
      exact ⟨Gr.refl _, .bool true, by simp, by simp [nameB, hv, hn]; omega⟩
  · have hv : validD s = false := by simpa using hv
    repeat' first
      | refine aSq ?_ | refine aRt ?_ | refine tN ?_ | refine tR ?_
      | (refine rg 1 ?_; refine tk 1 ?_; refine fc en51 ?_; refine SF.then (sf51 hs) ?_; simp only [hv, Bool.false_eq_true, if_false]; refine tk 5 ?_; refine dn ?_)
      | (refine rg 2 ?_; refine tk 2 ?_; (first | (refine te (fun hb => ?_) (fun hb => ?_) <;> (try simp at hb) <;> try (exfalso; omega)) | (refine tk 1 ?_)); all_goals (refine tk 4 ?_; (first | (refine te (fun hb => ?_) (fun hb => ?_) <;> (try simp at hb) <;> try (exfalso; omega)) | (refine tk 1 ?_)); all_goals (refine tk 4 ?_; refine dn ?_)))
      | refine ru ?_
      | (refine awp_if rfl (fun hb => ?_) (fun hb => ?_) <;> (try simp at hb) <;> try (exfalso; omega))
      | fail
    all_goals (exact ⟨Gr.refl _, .bool false, by simp, by simp [nameB, hv]⟩)
def wordsL : List Str := [[118, 97, 108], [116, 121, 112, 101], [100, 97, 116, 97, 116, 121, 112, 101], [115, 116, 114, 117, 99, 116, 117, 114, 101], [115, 105, 103, 110, 97, 116, 117, 114, 101], [102, 117, 110, 99, 116, 111, 114], [111, 112, 101, 110], [105, 110, 99, 108, 117, 100, 101], [115, 116, 114, 117, 99, 116], [101, 110, 100], [115, 105, 103], [119, 104, 101, 114, 101], [115, 104, 97, 114, 105, 110, 103], [102, 110], [108, 101, 116], [105, 110], [105, 102], [116, 104, 101, 110], [101, 108, 115, 101], [99, 97, 115, 101], [102, 111, 108, 100], [111, 102], [116, 111], [105, 110, 116], [98, 111, 111, 108], [117, 110, 105, 116], [116, 114, 117, 101], [102, 97, 108, 115, 101], [109, 117]]
theorem sf168 {H : Hp} : SF Tryz.prog W0 168 [] H fun r H' => H' = H ∧ r = .sl 1 (strs wordsL) .shut := by
  refine SF.pureLe (sf_start [0] 2 Tryz.func168 rfl rfl rfl (by decide) (by simp) ?_)
  repeat' first
    | refine aSq ?_ | refine aRt ?_
    | refine ru ?_
    | fail
  exact ⟨Gr.refl _, _, by simp [strs, wordsL], rfl⟩
theorem sf134 {s : Str} {H : Hp} : SF Tryz.prog W0 134 [.str s] H fun r H' => H' = H ∧ r = .bool (wordsL.any (· == s)) := by
  refine SF.pureLe (sf_start [2] 18 Tryz.func134 rfl rfl rfl (by decide) (by simp) ?_)
  repeat' first
    | refine aSq ?_ | refine aBl ?_
    | (refine rg 1 ?_; refine fc en168 ?_; refine SF.then sf168 ?_; refine tk 1 ?_; refine dn ?_)
    | refine ru ?_
    | fail
  have hl : wordsL.length = 29 := rfl
  refine awp_loop_inv (fun q st => ∃ i : Nat, q = 29 - i ∧ i ≤ 29 ∧ (wordsL.take i).any (· == s) = false ∧ Sub st ⟨18, [(4, .int .i64 i), (0, .str s), (3, .sl 1 (strs wordsL) .shut)], H⟩) 29 ⟨0, by simp, by simp, by simp, ⟨rfl, rfl, only_cons (by simp) (only_cons (by simp) (only_cons (by simp) only_nil))⟩⟩ ?_
  rintro q st ⟨i, rfl, hi, hh, hs2⟩
  refine awp_sub hs2 ?_
  clear hs2 st
  generalize wordsL = l at *
  repeat' first
    | refine aSq ?_ | refine aRt ?_ | refine aSk ?_ | refine aEx ?_ | refine aBl ?_ | refine tN ?_ | refine tR ?_ | refine iR ?_
    | refine ru ?_
    | (refine awp_if rfl (fun hb => ?_) (fun hb => ?_) <;> (try simp at hb) <;> try (exfalso; omega))
    | fail
  · have h5 := any_take_succ (· == s) l i (by assumption)
    have h6 : l.any (· == s) = true := any_of_take _ l (i + 1) (by rw [h5]; simp [hb])
    exact ⟨Gr.refl _, .bool true, by simp, by rw [h6]⟩
  · have h5 := any_take_succ (· == s) l i (by assumption)
    exact ⟨29 - (i + 1), by omega, i + 1, rfl, by omega, by rw [h5, hh]; simp [hb], rfl, rfl, only_cons (by simp (disch := omega)) (only_cons (by simp) (only_cons (by simp) only_nil))⟩
  · rw [List.take_of_length_le (by omega)] at hh
    exact ⟨Gr.refl _, .bool false, by simp, by rw [hh]⟩
def checkB (s : Str) : Bool := nameB s && !(wordsL.any (· == s))
theorem sf157 {s : Str} {H : Hp} (hs : s.length ≤ 67108864) : SF Tryz.prog W0 157 [.str s] H fun r H' => H' = H ∧ r = .bool (checkB s) := by
  refine SF.pureLe (sf_start [2] 10 Tryz.func157 rfl rfl rfl (by decide) (by simp) ?_)
  repeat' first
    | refine aSq ?_ | refine aRt ?_
    | (refine rg 1 ?_; refine tk 1 ?_; refine fc en135 ?_; refine SF.then (sf135 hs) ?_; (first | (refine te (fun hb => ?_) (fun hb => ?_) <;> (try simp at hb) <;> try (exfalso; omega)) | (refine tk 1 ?_)); all_goals (refine tk 1 ?_; (first | (refine fg en134 ?_; refine SF.then sf134 ?_) | (refine tk 1 ?_)); refine tk 3 ?_; refine dn ?_))
    | refine ru ?_
    | fail
  all_goals (simp [retQ, checkB, *])
end Go.Av
namespace Go.Av
open Go.Proofs
variable {W0 : World}
set_option maxRecDepth 10000
set_option maxHeartbeats 4000000
theorem pieces_step (s : Str) (i : Nat) (h : i < s.length) (acc : Str) : pieces acc (s.drop i) = if s[i] = 46 then acc :: pieces [] (s.drop (i + 1)) else pieces (acc ++ [s[i]]) (s.drop (i + 1)) := by
  rw [List.drop_eq_getElem_cons h]; rfl
theorem pieces_len (acc l : Str) : (pieces acc l).length ≤ l.length + 1 := by
  induction l generalizing acc with
  | nil => simp [pieces]
  | cons c l ih =>
    simp only [pieces]
    split
    · have := ih []; simp only [List.length_cons]; omega
    · have := ih (acc ++ [c]); simp only [List.length_cons]; omega
theorem take_drop_succ (s : Str) (a i : Nat) (ha : a ≤ i) (h : i < s.length) : (s.take i).drop a ++ [s[i]] = (s.take (i + 1)).drop a := by
  rw [List.take_add_one, List.getElem?_eq_getElem h, List.drop_append_of_le_length (by simp; omega)]; rfl
theorem sf193 {s : Str} {H : Hp} (hs : s.length ≤ 67108863) : SF Tryz.prog W0 193 [.str s] H fun r H' => H' = H ∧ r = .sl 1 (strs (pieces [] s)) .shut := by
  refine SF.pureLe (sf_start [2] 31 Tryz.func193 rfl rfl rfl (by decide) (by simp) ?_)
  repeat' first
    | refine aSq ?_ | refine aBl ?_
    | refine ru ?_
    | fail
  refine awp_loop_inv (fun q st => ∃ (i a : Nat) (pre : List Str) (v : AV) (Hc : Hp), q = s.length - i ∧ i ≤ s.length ∧ a ≤ i ∧ pre.length ≤ i ∧ pieces [] s = pre ++ pieces ((s.take i).drop a) (s.drop i) ∧ Gr H Hc ∧ App H Hc 1 (strs pre) v ∧
    Sub st ⟨31, [(0, .str s), (3, v), (4, .int .i64 a), (5, .int .i64 i)], Hc⟩) s.length
    ⟨0, 0, [], .slnil, H, by simp, by simp, by simp, by simp, by simp, Gr.refl _, App.slnil _ _ _, rfl, rfl, only_cons (by simp) (only_cons (by simp) (only_cons (by simp) (only_cons (by simp) only_nil)))⟩ ?_
  rintro q st ⟨i, a, pre, v, Hc, rfl, hi, hai, hpl, hp, hg, a1, hs2⟩
  refine awp_sub hs2 ?_
  clear hs2 st
  rcases Nat.lt_or_ge i s.length with hlt | hge
  · rw [pieces_step s i hlt] at hp
    repeat' first
      | refine aSq ?_ | refine aSk ?_ | refine aBl ?_ | refine tN ?_
      | (refine rg 7 ?_; refine aops_take 6 (mu := mu0) tab_ok (by simp [hai, hi]; rfl) ?_; obtain ⟨v', H', e1, a2, g2, ho2⟩ := a1.append (T := tab) hg (x := .sl 1 [[.str ((s.take i).drop a)]] .capped) (fs := [[.str ((s.take i).drop a)]]) (t := 36) (e := 9) tab36 tab9 rfl (by decide) (by simp) (by simp) (by simp; omega); refine aops_take 2 (mu := mu0) tab_ok (by simp [e1]; rfl) ?_; refine dn ?_)
      | (refine ru ?_ (by simp (disch := omega) [hai, hi]; with_reducible rfl))
      | (refine awp_if rfl (fun hb => ?_) (fun hb => ?_) <;> (try simp at hb) <;> try (exfalso; omega))
      | fail
    · have h46 : s[i] = 46 := by rw [← UInt8.toNat_inj]; show s[i].toNat = 46; omega
      rw [if_pos h46] at hp
      exact ⟨s.length - (i + 1), by omega, i + 1, i + 1, pre ++ [(s.take i).drop a], v', H', rfl, by omega, by omega, by simp; omega, by rw [hp]; simp, g2, by rw [strs_append]; exact a2, rfl, rfl, only_cons (by simp) (only_cons (by simp) (only_cons (by simp (disch := omega)) (only_cons (by simp (disch := omega)) only_nil)))⟩
    · have h46 : s[i] ≠ 46 := by intro h; rw [h] at hb; exact hb rfl
      rw [if_neg h46, take_drop_succ s a i hai hlt] at hp
      exact ⟨s.length - (i + 1), by omega, i + 1, a, pre, v, Hc, rfl, by omega, by omega, by omega, hp, hg, a1, rfl, rfl, only_cons (by simp) (only_cons (by simp) (only_cons (by simp (disch := omega)) (only_cons (by simp (disch := omega)) only_nil)))⟩
  · have : i = s.length := by omega
    subst this
    simp only [List.drop_length, pieces, List.take_length] at hp
    repeat' first
      | refine aSq ?_ | refine aRt ?_ | refine aEx ?_ | refine tN ?_
      | (refine rg 9 ?_; refine aops_take 5 (mu := mu0) tab_ok (by simp [hai, hi]; rfl) ?_; obtain ⟨v', H', e1, a2, g2, ho2⟩ := a1.append (T := tab) hg (x := .sl 1 [[.str (s.drop a)]] .capped) (fs := [[.str (s.drop a)]]) (t := 36) (e := 9) tab36 tab9 rfl (by decide) (by simp) (by simp) (by simp; omega); refine aops_take 2 (mu := mu0) tab_ok (by simp [e1]; rfl) ?_; refine dn ?_)
      | (refine ru ?_ (by simp (disch := omega) [hai, hi]; with_reducible rfl))
      | (refine awp_if rfl (fun hb => ?_) (fun hb => ?_) <;> (try simp at hb) <;> try (exfalso; omega))
      | fail
    refine ⟨g2, _, ?_, rfl⟩
    have q := a2.le'
    rw [hp, strs_append]
    rw [show strs [s.drop a] = [[AV.str (s.drop a)]] from rfl]
    simpa [clnLL_append] using q
def longB (s : Str) : Bool := decide (s.length ≤ 128) && (pieces [] s).all checkB
theorem pieces_le (s : Str) : ∀ (acc l : Str), acc.length + l.length ≤ s.length → ∀ x ∈ pieces acc l, x.length ≤ s.length := by
  intro acc l
  induction l generalizing acc with
  | nil => intro h x hx; simp only [pieces, List.mem_singleton] at hx; subst hx; simpa using h
  | cons c l ih =>
    intro h x hx
    simp only [List.length_cons] at h
    simp only [pieces] at hx
    split at hx
    · simp only [List.mem_cons] at hx
      rcases hx with rfl | hx
      · omega
      · exact ih [] (by simp; omega) x hx
    · exact ih _ (by simp; omega) x hx
theorem sf158 {s : Str} {H : Hp} (hs : s.length ≤ 67108863) : SF Tryz.prog W0 158 [.str s] H fun r H' => H' = H ∧ r = .bool (longB s) := by
  refine SF.pureLe (sf_start [2] 22 Tryz.func158 rfl rfl rfl (by decide) (by simp) ?_)
  repeat' first
    | refine aSq ?_ | refine aRt ?_ | refine aSk ?_ | refine aBl ?_ | refine tN ?_ | refine tR ?_
    | (refine rg 3 ?_; refine tk 1 ?_; refine fc en193 ?_; refine SF.then (sf193 hs) ?_; refine tk 1 ?_; refine dn ?_)
    | refine ru ?_
    | (refine awp_if rfl (fun hb => ?_) (fun hb => ?_) <;> (try simp at hb) <;> try (exfalso; omega))
    | fail
  · exact ⟨Gr.refl _, .bool false, by simp, by simp [longB]; omega⟩
  have hl := pieces_len [] s
  have hx := pieces_le s [] s (by simp)
  have hd : decide (s.length ≤ 128) = true := by simp; omega
  have hL : longB s = (pieces [] s).all checkB := by rw [longB, hd, Bool.true_and]
  rw [hL]
  generalize pieces [] s = l at *
  refine awp_loop_inv (fun q st => ∃ i : Nat, q = l.length - i ∧ i ≤ l.length ∧ (l.take i).all checkB = true ∧ Sub st ⟨22, [(4, .int .i64 i), (3, .sl 1 (strs l) .shut)], H⟩) l.length ⟨0, by simp, by simp, by simp, ⟨rfl, rfl, only_cons (by simp) (only_cons (by simp) only_nil)⟩⟩ ?_
  rintro q st ⟨i, rfl, hi, hh, hs2⟩
  refine awp_sub hs2 ?_
  clear hs2 st
  repeat' first
    | refine aSq ?_ | refine aRt ?_ | refine aSk ?_ | refine aEx ?_ | refine aBl ?_ | refine tN ?_ | refine tR ?_ | refine iR ?_
    | (refine rg 7 ?_; refine tk 4 ?_; refine fc en157 ?_; refine SF.then (sf157 (by have := hx l[i] (List.getElem_mem _); omega)) ?_; refine tk 1 ?_; refine dn ?_)
    | refine ru ?_
    | (refine awp_if rfl (fun hb => ?_) (fun hb => ?_) <;> (try simp at hb) <;> try (exfalso; omega))
    | fail
  · have h5 := all_take_succ checkB l i (by assumption)
    have h6 : l.all checkB = false := all_of_take checkB l (i + 1) (by rw [h5, hb]; simp)
    exact ⟨Gr.refl _, .bool false, by simp, by rw [h6]⟩
  · have h5 := all_take_succ checkB l i (by assumption)
    exact ⟨l.length - (i + 1), by omega, i + 1, rfl, by omega, by rw [h5, hh, hb]; rfl, rfl, rfl, only_cons (by simp (disch := omega)) (only_cons (by simp) only_nil)⟩
  · rw [List.take_of_length_le (by omega)] at hh
    exact ⟨Gr.refl _, .bool true, by simp, by rw [hh]⟩
def splitB (s : Str) : List Str := if longB s then pieces [] s else []
end Go.Av
