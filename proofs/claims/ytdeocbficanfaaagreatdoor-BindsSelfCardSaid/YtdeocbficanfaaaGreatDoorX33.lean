/-
  Go read by value: lemmas (part 33): N12, G0, G1, M9, M10, M11.
-/
import Derived.Test.YtdeocbficanfaaaGreatDoorX21
import Derived.Test.YtdeocbficanfaaaGreatDoorX22
import Derived.Test.YtdeocbficanfaaaGreatDoorX25
import Derived.Test.YtdeocbficanfaaaGreatDoorX27
import Derived.Test.YtdeocbficanfaaaGreatDoorX32
set_option linter.unusedVariables false
set_option linter.unusedSimpArgs false
set_option linter.unusedSectionVars false
namespace Go.Av
open Go.Proofs
variable {W0 : World}
set_option maxRecDepth 10000
set_option maxHeartbeats 4000000
def mu57 : TypeId → Bool := fun t => t == 57
@[simp] theorem mu57_eq (t : TypeId) : mu57 t = (t == 57) := rfl
theorem seenL_all {P : Hs → Prop} : ∀ {s : List Bd} {l : List Hs}, (∀ h ∈ l, P h) → (∀ b ∈ s, P (seenH b)) → ∀ h ∈ seenL s l, P h
  | [], l, h1, _ => h1
  | b :: s, l, h1, h2 => by
    refine seenL_all (s := s) (l := put l (seenH b)) (fun h hh => ?_) fun c hc => h2 c (.tail _ hc)
    rcases List.mem_append.1 hh with q | q
    · exact h1 h (List.mem_filter.1 q).1
    · rw [List.mem_singleton.1 q]; exact h2 b (.head _)
theorem seenL_nodup : ∀ {s : List Bd} {l : List Hs}, (l.map Hs.label).Nodup → ((seenL s l).map Hs.label).Nodup
  | [], l, h => h
  | b :: s, l, h => seenL_nodup (s := s) (put_nodup _ h)
theorem seenL_len : ∀ (s : List Bd) (l : List Hs), (seenL s l).length ≤ s.length + l.length
  | [], l => by simp [seenL]
  | b :: s, l => by have := seenL_len s (put l (seenH b)); have := put_len l (seenH b); simp only [seenL, List.length_cons]; omega
theorem scAV_drop {sc : List Sc} {i : Nat} (h : i < sc.length) : scAV (sc.drop i) = .ptr [.str sc[i].label, .sl 1 (ints sc[i].site) .shut, .bool sc[i].br, sc[i].has, scAV (sc.drop (i + 1))] := by
  rw [List.drop_eq_getElem_cons h]; rfl
theorem sf20 (hB : LibOK W0) {t : Tr} {H : Hp} (hc : t.cnt ≤ 4000) (hn : t.neat) : SF Tryz.prog W0 20 [t.av] H fun x H' => H'.objs = H.objs ∧ x = progR t := by
  have hck : SF Tryz.prog W0 35 [t.av] H fun r H' => H' = H ∧ r = .int .i64 (checkE t 7) := sf35 hB (by omega) hn
  by_cases h0 : checkE t 7 = 0
  · obtain ⟨n, a, b, l, rfl, hl⟩ := pr_ok (checkE_ok h0)
    rw [h0] at hck
    obtain ⟨N, hN⟩ : ∃ N, (Tr.node 80 n a b l).cnt = N := ⟨_, rfl⟩
    have hll := pos_len fun t ht => (hl t ht).pos
    obtain ⟨U, hUd⟩ : ∃ U, Tr.labss l = U := ⟨_, rfl⟩
    have hul : InUs U l := fun x hx => hUd ▸ hx
    have hUl : U.length ≤ Tr.cnts l := hUd ▸ labss_len l
    simp only [progR, h0, if_true, hN]
    simp only [Tr.av] at hck ⊢
    simp only [Tr.cnt] at hc hN
    have hU3 : U.length ≤ 30000000 := by omega
    have hUc : (U.length + 1) * Tr.cnts l ≤ 4001 * 4000 := Nat.mul_le_mul (by omega) (by omega)
    have hUc2 : U.length * Tr.cnts l ≤ 4000 * 4000 := Nat.mul_le_mul (by omega) (by omega)
    obtain ⟨fin, hfin⟩ : ∃ fin, foldK (declF N []) 0 l (⟨[], [], 0⟩, ⟨[], []⟩) = fin := ⟨_, rfl⟩
    have hpw : progW N (.node 80 n a b l) = { fin.1 with X := fin.1.X ++ endsL fin.2.Out [] ++ endsL (seenL fin.2.S []) [] } := by rw [← hfin]; rfl
    rw [hpw]
    refine SF.le (SF.cut (sf_start [2, 3] 70 Tryz.func20 rfl rfl rfl (by decide) (by simp) ?_))
    repeat' first
      | refine aSq ?_ | refine aSk ?_ | refine aBl ?_ | refine tN ?_
      | (refine rg 1 ?_; refine tk 1 ?_; refine fc en35 ?_; refine SF.then hck ?_; refine tk 1 ?_; refine dn ?_)
      | (refine rg 4 ?_; refine aops_take 7 (mu := mu57) tab_ok (by simp; with_reducible rfl) ?_; refine dn ?_)
      | refine ru ?_
      | (refine awp_if rfl (fun hb => ?_) (fun hb => ?_) <;> (try simp at hb) <;> try (exfalso; omega))
      | fail
    refine awp_loop_inv (fun q st => ∃ (i : Nat) (cur : Wk × Stt) (Hc : Hp) (sc : List Sc), q = l.length - i ∧ i ≤ l.length ∧ foldK (declF N []) i (l.drop i) cur = fin ∧ LenX U ⟨[], [], 0⟩ cur.1 (Tr.cnts (l.take i)) ∧ SttOK U ⟨[], []⟩ cur.2 (Tr.cnts (l.take i)) ∧ WKb Hc H.objs.length cur.1 ∧ SR sc cur.2.S ∧ GvO Hc (H.objs.length + 1) cur.2.Out ∧
      Hc.objs[H.objs.length + 2]? = some (.map [] []) ∧ H.objs.length + 3 ≤ Hc.objs.length ∧ (∀ j, j < H.objs.length → Hc.objs[j]? = H.objs[j]?) ∧
      Sub st ⟨70, [(5, .ref H.objs.length 0), (6, .mref (H.objs.length + 1)), (7, .mref (H.objs.length + 2)), (8, scAV sc), (24, .sl 1 (Tr.avs l) .shut), (25, .int .i64 l.length), (26, .int .i64 i)], Hc⟩) l.length
      ⟨0, (⟨[], [], 0⟩, ⟨[], []⟩), ⟨H.objs ++ [.cells [.slnil, .slnil, .int .i64 0], .map [] [], .map [] []], H.hi⟩, [], by simp, by simp, hfin, .refl _ _ _, .refl (by simp [SOK]) .nil _, ⟨⟨.slnil, .slnil, by simp, .slnil _ _ _, .slnil _ _ _, .slnil _⟩, .inl rfl⟩, .nil, ⟨[], [], by simp, .nil⟩, by simp, by simp, fun j hj => List.getElem?_append_left hj, sb (by (repeat' first | exact only_nil | refine only_cons (by simp (disch := omega) [scAV]) ?_))⟩ ?_
    clear hfin
    rintro q st ⟨i, cur, Hc, sc, rfl, hi, hfo, hlo, hst, hwc, hsc, hgc, hsm, hlc, hfc, hs2⟩
    refine awp_sub hs2 ?_
    clear hs2 st
    repeat' first
      | refine aSq ?_ | refine aSk ?_ | refine aEx ?_ | refine aBl ?_ | refine tN ?_
      | (refine rg 9 ?_; skip)
      | (refine ru ?_; (have hil : i = l.length := by omega); subst hil; rw [foldK_end _ (Nat.le_refl _)] at hfo; subst hfo; rw [List.take_length] at hlo hst; have hx1 := hlo.2; have hol := hst.o.len; have hsl := hst.len; simp only [List.length_nil] at hx1 hsl)
      | refine ru ?_
      | (refine awp_if rfl (fun hb => ?_) (fun hb => ?_) <;> (try simp at hb) <;> try (exfalso; omega))
      | fail
    · (have hlt : i < l.length := by assumption); (have q1 := Tr.cnts_take l i hlt); (have q2 := Tr.cnts_take_le l (i + 1)); (have q3 := Tr.cnts_le l i hlt); (have m3 : U.length * Tr.cnts (l.take (i + 1)) = U.length * Tr.cnts (l.take i) + U.length * l[i].cnt := by rw [q1, Nat.mul_add]); (have m4 := mul_le U.length q2); (have h1 := hlo.1); (have h2 := hlo.2); (have q4 := (mods_ok U N).2 cur.2 l[i] (down [] i) cur.1 (hl _ (List.getElem_mem hlt)) hst.s hst.o (hul.mem _ (List.getElem_mem hlt)) (by rw [down_len]; simp only [List.length_nil]; omega))
      simp only [List.length_nil] at h1 h2
      refine tk 6 ?_ (by simp [List.getElem?_eq_getElem hlt]; with_reducible rfl)
      refine fc en36 ?_
      refine ((modsB hB U hU3 N).2 l[i] sc cur.2 (down [] i) .capped Hc H.objs.length (H.objs.length + 1) cur.1 (by omega) (hl _ (List.getElem_mem hlt)) hst.s hst.o hsc hgc (hul.mem _ (List.getElem_mem hlt)) (by rw [down_len]; simp only [List.length_nil]; omega) (by omega) (by omega) hwc (by omega)).mono ?_; rintro x1 H2 ⟨⟨sc2, rfl, hsd⟩, hgd, hwb, hfb⟩
      refine tk 1 ?_
      refine dn ?_
      repeat' first
        | refine tN ?_
        | refine ru ?_
        | fail
      exact ⟨l.length - (i + 1), by omega, i + 1, _, H2, sc2, rfl, by omega, by rw [foldK_drop _ hlt] at hfo; exact hfo, by rw [q1]; exact hlo.trans q4.1, by rw [q1]; exact hst.trans q4.2, hwb, hsd, hgd, (hfb.2 _ (by omega)).trans hsm, by rw [hfb.1]; omega, fun j hj => (hfb.2 j (by omega)).trans (hfc j hj), sb⟩
    have hSl : cur.2.S.length ≤ 17000000 := by omega
    obtain ⟨S, hSd⟩ : ∃ S, cur.2.S = S := ⟨_, rfl⟩
    obtain ⟨O, hOd⟩ : ∃ O, cur.2.Out = O := ⟨_, rfl⟩
    have hso := hst.s
    have hoo := hst.o
    rw [hSd] at hsc hSl hso
    rw [hOd] at hgc hoo hol
    rw [hSd, hOd]
    refine awp_loop_inv (fun q st => ∃ (i : Nat) (ks : List Str) (vs : List AV) (Hd : Hp), q = sc.length - i ∧ i ≤ sc.length ∧ SeenR sc (sc.take i) ks vs ∧ Hd.objs[H.objs.length + 2]? = some (.map ks vs) ∧ WKb Hd H.objs.length cur.1 ∧ GvO Hd (H.objs.length + 1) O ∧ H.objs.length + 3 ≤ Hd.objs.length ∧ (∀ j, j < H.objs.length → Hd.objs[j]? = H.objs[j]?) ∧
      Sub st ⟨70, [(5, .ref H.objs.length 0), (6, .mref (H.objs.length + 1)), (7, .mref (H.objs.length + 2)), (11, scAV (sc.drop i))], Hd⟩) sc.length
      ⟨0, [], [], Hc, by simp, by simp, .nil _, hsm, hwc, hgc, hlc, hfc, sb⟩ ?_
    clear hfc hlc hsm hwc hgc
    rintro q st ⟨i, ks, vs, Hd, rfl, hi, hsn, hsm, hwc, hgc, hlc, hfc, hs2⟩
    refine awp_sub hs2 ?_
    clear hs2 st
    rcases Nat.lt_or_ge i sc.length with hlt | hge
    · rw [scAV_drop hlt]
      have hdd : Data (scAV (sc[i] :: sc.drop (i + 1))) := scAV_data fun c hc => hsc.ok c (by rcases List.mem_cons.1 hc with rfl | hc; exact List.getElem_mem hlt; exact List.mem_of_mem_drop hc)
      have htk : sc.take (i + 1) = sc.take i ++ [sc[i]] := by rw [List.take_add_one, List.getElem?_eq_getElem hlt]; rfl
      cases hgt : getA ks vs sc[i].label with
      | some v =>
        obtain ⟨hdv, c, nx, hfnd, rfl⟩ := hsn.hv _ _ hgt
        have hl0 : lookA tab Hd 82 (.mref (H.objs.length + 2)) (.str sc[i].label) false = some (.ptr [.str sc[i].label, .sl 1 (ints c.site) .shut, .bool c.br, c.has, nx]) := by rw [look82 hsm, hgt]; rfl
        repeat' first
          | refine aSq ?_ | refine aSk ?_ | refine aBl ?_ | refine tN ?_
          | (refine ru ?_ (by simp (disch := omega) [-lookA, hl0]; with_reducible rfl))
          | (refine awp_if rfl (fun hb => ?_) (fun hb => ?_) <;> (try simp at hb) <;> try (exfalso; omega))
          | fail
        exact ⟨sc.length - (i + 1), by omega, i + 1, ks, vs, Hd, rfl, by omega, by rw [htk]; exact hsn.old (getA_mem hsn.hl hgt), hsm, hwc, hgc, hlc, hfc, sb⟩
      | none =>
        have hl0 : lookA tab Hd 82 (.mref (H.objs.length + 2)) (.str sc[i].label) false = some .nilp := by rw [look82 hsm, hgt]; rfl
        have hp0 := fun v => put82 (k := sc[i].label) (v := v) hsm
        repeat' first
          | refine aSq ?_ | refine aSk ?_ | refine aBl ?_ | refine tN ?_
          | (refine ru ?_ (by simp (disch := omega) [-lookA, -putA, hl0, hp0]; with_reducible rfl))
          | (refine awp_if rfl (fun hb => ?_) (fun hb => ?_) <;> (try simp at hb) <;> try (exfalso; omega))
          | fail
        refine ⟨sc.length - (i + 1), by omega, i + 1, _, _, _, rfl, by omega, by rw [htk]; exact hsn.new ((getA_none hsn.hl).1 hgt) hdd, List.getElem?_set_self (obj_lt hsm), hwc.put _ (by omega), hgc.set _ (by omega), by simpa using hlc, fun j hj => ?_, sb⟩
        simp only
        rw [List.getElem?_set_ne (by omega)]
        exact hfc j hj
    · have hnil : sc.drop i = [] := List.drop_of_length_le hge
      have hil : i = sc.length := by omega
      subst hil
      rw [hnil]
      rw [List.take_length] at hsn
      have hgv := hsn.gv hsc
      obtain ⟨ks0, vs0, hob0, hgr0⟩ := id hgc
      repeat' first
        | refine aSq ?_ | refine aEx ?_ | refine tN ?_
        | (refine rg 16 ?_; refine tk 2 ?_; refine fc en37 ?_; refine (SF.args (.cons (.refl _) (.cons (.nilShut 1) (.cons (.refl _) .nil))) (sf37 (o2 := .shut) (p := []) hB hgr0.gvl hob0 hoo.nodup hoo.lo hoo.hi hoo.site (by omega) (by simp) (by omega) hwc (by omega))).mono ?_; rintro x1 H2 ⟨rfl, hwb, hfb⟩; have hsm2 := (hfb.2 _ (by omega)).trans hsm; refine dn ?_)
        | (refine rg 17 ?_; refine tk 2 ?_; refine fc en37 ?_; refine (SF.args (.cons (.refl _) (.cons (.nilShut 1) (.cons (.refl _) .nil))) (sf37 (o2 := .shut) (p := []) hB hgv hsm2 (seenL_nodup (by simp)) (seenL_all (by simp) fun b hb => (hso b hb).lo) (seenL_all (by simp) fun b hb => (hso b hb).hi) (seenL_all (by simp) fun b hb => (hso b hb).site) (by have := seenL_len S []; simp only [List.length_nil] at this; omega) (by simp) (by have := seenL_len S []; simp only [List.length_nil] at this; simp only [List.length_append, ends_len]; omega) hwb (by omega))).mono ?_; rintro x1 H3 ⟨rfl, hwd, hfd⟩; refine dn ?_)
        | (refine ru ?_ (by simp (disch := omega) [scAV]; with_reducible rfl))
        | (refine awp_if rfl (fun hb => ?_) (fun hb => ?_) <;> (try simp at hb) <;> try (exfalso; omega))
        | fail
      obtain ⟨⟨vL, vX, hob, aL, aX, -⟩, -⟩ := hwd
      have hl3 : H.objs.length < H3.objs.length := obj_lt hob
      refine awp_only [(5, .ref H.objs.length 0)] (only_cons (by simp) only_nil) ?_
      refine awp_freeze H.objs.length [(5, .ptr [vL, vX, .int .i64 cur.1.E])] hob (.cons (.ptr _ 0 rfl) .nil) ?_
      repeat' first
        | refine aRt ?_
        | (refine dr 18 [(0, true), (1, true), (2, true), (3, true), (4, true), (5, true), (6, true)] [] ?_; refine dl ?_)
        | fail
      have eL : ∀ n m, Le (cln n m vL) (.sl 5 (lks cur.1.L) .shut) := fun n m => by have := App.leC aL n m; rwa [lks_cln] at this
      have eX : ∀ n m, Le (cln n m vX) (.sl 5 (lks (cur.1.X ++ endsL O [] ++ endsL (seenL S []) [])) .shut) := fun n m => by have := App.leC aX n m; rwa [lks_cln] at this
      refine ⟨H.hi.length, Nat.le_refl _, fun hold => ⟨_, .tuple (.cons (.ptr (.cons (eL _ _) (.cons (eX _ _) (.cons (.refl _) .nil)))) (.cons (.refl _) .nil)), ?_, rfl⟩⟩
      apply List.ext_getElem?
      intro j
      simp only [List.getElem?_map, List.getElem?_take]
      split
      · rename_i hj
        rw [List.getElem?_set_ne (by omega), hfd.2 j (by omega), hfb.2 j (by omega), hfc j hj]
        have := congrArg (fun l => l[j]?) hold
        simpa only [List.getElem?_map] using this
      · rename_i hj
        rw [List.getElem?_eq_none (by omega)]; rfl
  · have : (checkE t 7 == 0) = false := by simpa using h0
    simp only [progR, h0, if_false]
    refine SF.le (SF.cut (sf_start [2, 3] 70 Tryz.func20 rfl rfl rfl (by decide) (by simp) ?_))
    repeat' first
      | refine aSq ?_ | refine aRt ?_ | refine tN ?_ | refine tR ?_
      | (refine rg 1 ?_; refine tk 1 ?_; refine fc en35 ?_; refine SF.then hck ?_; refine tk 1 ?_; refine dn ?_)
      | refine ru ?_
      | (refine awp_if rfl (fun hb => ?_) (fun hb => ?_) <;> (try simp at hb) <;> try (exfalso; omega))
      | fail
    exact ⟨H.hi.length, Nat.le_refl _, fun hold => ⟨_, .refl _, by simpa using hold, by simp⟩⟩
theorem sf7 (hB : LibOK W0) {t : Tr} {H : Hp} (hc : t.cnt ≤ 4000) (hn : t.neat) : SF Tryz.prog W0 7 [t.av] H fun x H' => H'.objs = H.objs ∧ x = linksR t := by
  rcases progR_tuple t with ⟨he, hr⟩ | ⟨he, v, hr⟩
  · refine SF.le (sf_start [2, 3] 18 Tryz.func7 rfl rfl rfl (by decide) (by simp) ?_)
    repeat' first
      | refine aSq ?_ | refine aRt ?_ | refine aSk ?_ | refine tN ?_
      | (refine rg 1 ?_; refine tk 1 ?_; refine fc en20 ?_; refine (sf20 hB hc hn).mono ?_; rintro x H1 ⟨ho, rfl⟩; rw [hr]; simp only [wkR]; refine tk 5 ?_; refine dn ?_)
      | refine ru ?_
      | (refine awp_if rfl (fun hb => ?_) (fun hb => ?_) <;> (try simp at hb) <;> try (exfalso; omega))
      | fail
    exact ⟨_, .refl _, ho, by simp [linksR, he]⟩
  · refine SF.le (sf_start [2, 3] 18 Tryz.func7 rfl rfl rfl (by decide) (by simp) ?_)
    repeat' first
      | refine aSq ?_ | refine aRt ?_ | refine tN ?_ | refine tR ?_
      | (refine rg 1 ?_; refine tk 1 ?_; refine fc en20 ?_; refine (sf20 hB hc hn).mono ?_; rintro x H1 ⟨ho, rfl⟩; rw [hr]; refine tk 5 ?_; refine dn ?_)
      | refine ru ?_
      | (refine awp_if rfl (fun hb => ?_) (fun hb => ?_) <;> (try simp at hb) <;> try (exfalso; omega))
      | fail
    exact ⟨_, .tuple (.cons (.nilShut 5) (.cons (.refl _) .nil)), ho, by simp [linksR, he, lks]⟩
theorem sf9 (hB : LibOK W0) {t : Tr} {H : Hp} (hc : t.cnt ≤ 4000) (hn : t.neat) : SF Tryz.prog W0 9 [t.av] H fun x H' => H'.objs = H.objs ∧ x = exportsR t := by
  rcases progR_tuple t with ⟨he, hr⟩ | ⟨he, v, hr⟩
  · refine SF.le (sf_start [2, 3] 18 Tryz.func9 rfl rfl rfl (by decide) (by simp) ?_)
    repeat' first
      | refine aSq ?_ | refine aRt ?_ | refine aSk ?_ | refine tN ?_
      | (refine rg 1 ?_; refine tk 1 ?_; refine fc en20 ?_; refine (sf20 hB hc hn).mono ?_; rintro x H1 ⟨ho, rfl⟩; rw [hr]; simp only [wkR]; refine tk 5 ?_; refine dn ?_)
      | refine ru ?_
      | (refine awp_if rfl (fun hb => ?_) (fun hb => ?_) <;> (try simp at hb) <;> try (exfalso; omega))
      | fail
    exact ⟨_, .refl _, ho, by simp [exportsR, he]⟩
  · refine SF.le (sf_start [2, 3] 18 Tryz.func9 rfl rfl rfl (by decide) (by simp) ?_)
    repeat' first
      | refine aSq ?_ | refine aRt ?_ | refine tN ?_ | refine tR ?_
      | (refine rg 1 ?_; refine tk 1 ?_; refine fc en20 ?_; refine (sf20 hB hc hn).mono ?_; rintro x H1 ⟨ho, rfl⟩; rw [hr]; refine tk 5 ?_; refine dn ?_)
      | refine ru ?_
      | (refine awp_if rfl (fun hb => ?_) (fun hb => ?_) <;> (try simp at hb) <;> try (exfalso; omega))
      | fail
    exact ⟨_, .tuple (.cons (.nilShut 5) (.cons (.refl _) .nil)), ho, by simp [exportsR, he, lks]⟩
end Go.Av
namespace Go.Av
open Go.Proofs
variable {W0 : World}
set_option maxRecDepth 100000
set_option maxHeartbeats 4000000
def effT : FuncId → Bool := fun f => f == 140
def noLib : Rec := fun _ _ _ => none
def muE : TypeId → Bool := fun t => t == 43
def ex27 : Str := [118, 97, 108, 32, 120, 32, 61, 32, 49, 32, 118, 97, 108, 32, 121, 32, 61, 32, 120]
def exT : Tr := .node 80 0 [] [] [.node 70 0 [120] [] [.node 20 1 [] [] []], .node 70 0 [121] [] [.node 23 0 [120] [] []]]
def exV : AV := .ptr [.int .i64 80, .int .i64 0, .str [], .str [], .sl 1 [[.ptr [.int .i64 70, .int .i64 0, .str [120], .str [], .sl 1 [[.ptr [.int .i64 20, .int .i64 1, .str [], .str [], .slnil]]] .shut]], [.ptr [.int .i64 70, .int .i64 0, .str [121], .str [], .sl 1 [[.ptr [.int .i64 23, .int .i64 0, .str [120], .str [], .slnil]]] .shut]]] .shut]
theorem noLib_ok : RecOK Tryz.prog W0 noLib := fun f args H r H' h => by cases h
theorem ex_eval : (match evalF Tryz.prog tab muE effT noLib 64 6 [.str ex27] ⟨[], []⟩ with | some (r, h) => eqA r exV && eqHp h ⟨[], []⟩ | none => false) = true := by decide +kernel
theorem ex_av : Le exV exT.av :=
  .ptr (.cons (.refl _) (.cons (.refl _) (.cons (.refl _) (.cons (.refl _) (.cons (.sl (.cons (.cons (.ptr (.cons (.refl _) (.cons (.refl _) (.cons (.refl _) (.cons (.refl _) (.cons (.sl (.cons (.cons (.ptr (.cons (.refl _) (.cons (.refl _) (.cons (.refl _) (.cons (.refl _) (.cons (.nilShut 1) .nil)))))) .nil) .nil) (.inr rfl)) .nil)))))) .nil)
    (.cons (.cons (.ptr (.cons (.refl _) (.cons (.refl _) (.cons (.refl _) (.cons (.refl _) (.cons (.sl (.cons (.cons (.ptr (.cons (.refl _) (.cons (.refl _) (.cons (.refl _) (.cons (.refl _) (.cons (.nilShut 1) .nil)))))) .nil) .nil) (.inr rfl)) .nil)))))) .nil) .nil)) (.inr rfl)) .nil)))))
theorem ex_run {H : Hp} : SF Tryz.prog W0 6 [.str ex27] H fun r H' => H' = H ∧ r = exT.av := by
  refine SF.le ((SF.anywhere (r := exV) rfl str_args fun W => ?_).mono ?_)
  · have he := ex_eval
    cases hv : evalF Tryz.prog tab muE effT noLib 64 6 [.str ex27] ⟨[], []⟩ with
    | none => rw [hv] at he; cases he
    | some x =>
      obtain ⟨r, h⟩ := x
      rw [hv] at he
      simp only [Bool.and_eq_true] at he
      have hr := eqA_ok he.1
      have := (evalF_ok (W0 := W) tab_ok mixedT noLib_ok 64 _ _ _ _ _ hv).2
      exact this.mono fun x X ⟨h1, _⟩ => h1.trans hr
  · rintro r H' ⟨rfl, rfl⟩
    exact ⟨_, ex_av, rfl, rfl⟩
theorem ex_neat : exT.neat := by simp [exT, Tr.neat, Tr.neats]
def exL : List Lk := [⟨[1, 0], [118], [120], [0], []⟩]
theorem ex_links : linksR exT = .tuple [.sl 5 (lks exL) .shut, .int .i64 0] := by
  have h1 : errT exT = 0 := by decide +kernel
  have h2 : (progW exT.cnt exT).L = exL := by decide +kernel
  simp only [linksR, h1, if_true, h2]
theorem sf12 (hB : LibOK W0) {H : Hp} : SF Tryz.prog W0 12 [] H fun r H' => H'.objs = H.objs ∧ r = .bool true := by
  refine sf_start [0] 18 Tryz.func12 rfl rfl rfl (by decide) (by simp) ?_
  repeat' first
    | refine aSq ?_ | refine aRt ?_
    | (refine rg 1 ?_; refine fc en6 ?_; refine SF.then ex_run ?_; refine fc en7 ?_; refine (sf7 hB (by decide) ex_neat).mono ?_; rintro x1 H1 ⟨ho, rfl⟩; rw [ex_links]; refine tk 5 ?_; refine dn ?_)
    | (refine rg 2 ?_; refine tk 2 ?_; (first | (refine te (fun hb => ?_) (fun hb => ?_) <;> (try simp at hb) <;> try (exfalso; omega)) | (refine tk 1 ?_)); all_goals (refine tk 5 ?_; (first | (refine fg en11 ?_; refine (SF.args (.cons (.refl _) (.cons (.sl (.cons (.cons (.sl (.refl _) (.inr rfl)) (.cons (.refl _) (.cons (.refl _) (.cons (.sl (.refl _) (.inr rfl)) (.cons (.nilShut 1) .nil))))) .nil) (.inr rfl)) .nil)) (sf11 (l := exL) (o1 := .shut) (o2 := .shut) (by decide) (by decide))).mono ?_; rintro x2 H2 ⟨rfl, rfl⟩) | (refine tk 1 ?_)); refine tk 2 ?_; refine dn ?_))
    | refine ru ?_
    | fail
  exact ⟨ho, rfl⟩
end Go.Av
namespace Go.Av
open Go.Proofs
variable {W0 : World}
set_option maxRecDepth 10000
set_option maxHeartbeats 4000000
def linksL (t : Tr) : List Lk := if errT t = 0 then (progW t.cnt t).L else []
def exportsL (t : Tr) : List Lk := if errT t = 0 then (progW t.cnt t).X else []
theorem links_ok {t : Tr} (hc : t.cnt ≤ 4000) : ((linksL t).length ≤ 67108863 ∧ ∀ k ∈ linksL t, LkOK k) ∧ ((exportsL t).length ≤ 67108863 ∧ ∀ k ∈ exportsL t, LkOK k) := by
  unfold linksL exportsL
  by_cases h : errT t = 0
  · simp only [h, if_true]
    have hk : isB t 7 = true := by
      unfold errT at h
      by_cases h2 : checkE t 7 = 0
      · exact checkE_ok h2
      · rw [if_neg h2] at h; exact absurd h h2
    obtain ⟨q1, q2, q3⟩ := progW_lb hc hk
    exact ⟨⟨by omega, q1.l⟩, by omega, q1.x⟩
  · simp only [h, if_false]
    exact ⟨⟨by simp, by simp⟩, by simp, by simp⟩
theorem links_len {t : Tr} (hc : t.cnt ≤ 4000) : (linksL t).length ≤ 33554431 ∧ (exportsL t).length ≤ 33554431 := by
  unfold linksL exportsL
  by_cases h : errT t = 0
  · simp only [h, if_true]
    have hk : isB t 7 = true := by
      unfold errT at h
      by_cases h2 : checkE t 7 = 0
      · exact checkE_ok h2
      · rw [if_neg h2] at h; exact absurd h h2
    exact (progW_lb hc hk).2
  · simp [h]
end Go.Av
namespace Go.Av
def leadT : Tr := .node 71 0 [122, 122, 122] [] [.node 1 0 [] [] []]
def aheadT (l : List Tr) : Tr := .node 80 0 [] [] (leadT :: l)
theorem ahead_is {n : Int} {a b : Str} {l : List Tr} (h : isB (.node 80 n a b l) 7 = true) : isB (aheadT l) 7 = true := by
  unfold aheadT
  rw [is_7_80] at h ⊢
  simp only [Bool.and_eq_true, decide_eq_true_eq, kidsB_star, List.all_eq_true] at h ⊢
  refine ⟨by decide, by decide, by decide, fun x hx => ?_⟩
  rcases List.mem_cons.1 hx with rfl | hx
  · exact ⟨by decide, by decide⟩
  · exact h.2.2.2 x hx
theorem ahead_check {n : Int} {a b : Str} {l : List Tr} (h : checkE (.node 80 n a b l) 7 = 0) : checkE (aheadT l) 7 = 0 ∨ checkE (aheadT l) 7 = 3 ∨ checkE (aheadT l) 7 = 7 := by
  have h7 := ahead_is (checkE_ok h)
  have hh : (aheadT l).hole = false := by
    unfold checkE packE at h
    have : (Tr.node 80 n a b l).hole = false := by
      cases hq : (Tr.node 80 n a b l).hole with
      | false => rfl
      | true => simp [hq] at h
    simpa [aheadT, leadT, Tr.hole, Tr.holes] using this
  unfold checkE packE
  simp only [hh, h7, Bool.false_eq_true, if_false, if_true]
  repeat' split
  all_goals simp_all
end Go.Av
namespace Go.Av
theorem foldK_congr {σ : Type} {f g : Nat → Tr → σ → σ} : ∀ (l : List Tr) (i : Nat) (x : σ), (∀ t ∈ l, ∀ j x, f j t x = g j t x) → foldK f i l x = foldK g i l x
  | [], _, _, _ => rfl
  | t :: l, i, x, h => by
    simp only [foldK]
    rw [h t (.head _) i x]
    exact foldK_congr l (i + 1) _ fun u hu => h u (.tail _ hu)
theorem cnts_mem : ∀ {l : List Tr} {t : Tr}, t ∈ l → t.cnt ≤ Tr.cnts l
  | u :: l, t, h => by
    rcases List.mem_cons.1 h with rfl | h
    · simp only [Tr.cnts]; omega
    · have := cnts_mem h; simp only [Tr.cnts]; omega
theorem kids_cnt {N : Nat} {t : Tr} (h : t.cnt ≤ N + 1) : ∀ k ∈ t.kids, k.cnt ≤ N := by
  cases t with
  | none => simp [Tr.kids]
  | node k n a b l =>
    intro u hu
    have := cnts_mem hu
    simp only [Tr.cnt, Tr.kids] at *
    omega
theorem kid_cnt {N : Nat} {t : Tr} (h : t.cnt ≤ N + 1) (i : Nat) : (t.kid i).cnt ≤ N := by
  unfold Tr.kid
  rcases Nat.lt_or_ge i t.kids.length with hi | hi
  · have := kids_cnt h _ (List.getElem_mem hi)
    simpa [List.getD, hi] using this
  · simp [List.getD, List.getElem?_eq_none hi, Tr.cnt]
theorem typ_fuel : ∀ (N : Nat) (s : List Bd) (t : Tr) (p : Path) (w : Wk), t.cnt ≤ N → typW N s t p w = typW (N + 1) s t p w
  | 0, s, t, p, w, h => by
    cases t with
    | none => simp [typW, Tr.kids, foldK, Tr.kind]
    | node k n a b l => simp [Tr.cnt] at h
  | N + 1, s, t, p, w, h => by
    rw [typW, typW]
    exact foldK_congr _ _ _ fun u hu j x => typ_fuel N _ u _ x (kids_cnt h u hu)
theorem expr_fuel : ∀ (N : Nat) (s : List Bd) (t : Tr) (p : Path) (w : Wk), t.cnt ≤ N → exprW N s t p w = exprW (N + 1) s t p w
  | 0, s, t, p, w, h => by
    cases t with
    | none => simp [exprW, Tr.kids, foldK, Tr.kind]
    | node k n a b l => simp [Tr.cnt] at h
  | N + 1, s, t, p, w, h => by
    rw [exprW, exprW]
    refine foldK_congr _ _ _ fun u hu j x => ?_
    split
    · exact typ_fuel N _ u _ x (kids_cnt h u hu)
    · exact expr_fuel N _ u _ x (kids_cnt h u hu)
theorem data_fuel (N : Nat) (x : Stt) (t : Tr) (p : Path) (w : Wk) (h : t.cnt ≤ N) : dataW N x t p w = dataW (N + 1) x t p w := by
  unfold dataW
  rw [typ_fuel N _ t p w h]
mutual
theorem sig_fuel : ∀ (N : Nat) (s : List Bd) (t : Tr) (p : Path) (w : Wk), 1 ≤ t.cnt → t.cnt ≤ N → SgW t → sigW N s t p w = sigW (N + 1) s t p w
  | 0, s, t, p, w, h1, h, _ => by omega
  | N + 1, s, t, p, w, _, h, ht => by
    rw [sigW, sigW]
    cases ht with
    | name hh => simp [Tr.kind]
    | wh h1 h2 =>
      have q0 := kid_cnt h 0
      have q1 := kid_cnt h 1
      simp only [Tr.kind, Tr.kid, Tr.kids, List.getD_cons_zero, List.getD_cons_succ] at *
      rw [sig_fuel N _ _ _ _ h1.pos q0 h1, typ_fuel N _ _ _ _ q1] <;> simp
    | body hl =>
      have hk := kids_cnt h
      simp only [Tr.kind, Tr.kids] at *
      rw [foldK_congr (f := fun i k x => specW N x.2 k (down p i) x.1) (g := fun i k x => specW (N + 1) x.2 k (down p i) x.1) _ _ _ fun u hu j x => spec_fuel N _ u _ _ (hl u hu).pos (hk u hu) (hl u hu)] <;> simp
theorem spec_fuel : ∀ (N : Nat) (x : Stt) (t : Tr) (p : Path) (w : Wk), 1 ≤ t.cnt → t.cnt ≤ N → SpW t → specW N x t p w = specW (N + 1) x t p w
  | 0, x, t, p, w, h1, h, _ => by omega
  | N + 1, x, t, p, w, _, h, ht => by
    rw [specW, specW]
    have q0 := kid_cnt h 0
    have hk := kids_cnt h
    cases ht with
    | val ha h2 => simp only [Tr.kind, Tr.kid, Tr.kids, List.getD_cons_zero] at *; rw [typ_fuel N _ _ _ _ q0] <;> simp
    | typ0 ha => simp [Tr.kind, Tr.kids, foldK]
    | typ1 ha h2 => simp only [Tr.kind, Tr.kid, Tr.kids, List.getD_cons_zero, foldK] at *; rw [typ_fuel N _ _ _ _ q0] <;> simp
    | data h8 h2 => simp only [Tr.kind]; rw [data_fuel (N + 1) _ _ _ _ h] <;> simp
    | str ha h2 => simp only [Tr.kind, Tr.kid, Tr.kids, List.getD_cons_zero] at *; rw [sig_fuel N _ _ _ _ h2.pos q0 h2] <;> simp
    | inc h2 => simp only [Tr.kind, Tr.kid, Tr.kids, List.getD_cons_zero] at *; rw [sig_fuel N _ _ _ _ h2.pos q0 h2] <;> simp
    | share => simp [Tr.kind]
end
mutual
theorem mod_fuel : ∀ (N : Nat) (s : List Bd) (t : Tr) (p : Path) (w : Wk), 1 ≤ t.cnt → t.cnt ≤ N → MdW t → modW N s t p w = modW (N + 1) s t p w
  | 0, s, t, p, w, h1, h, _ => by omega
  | N + 1, s, t, p, w, _, h, ht => by
    rw [modW, modW]
    have q0 := kid_cnt h 0
    have q1 := kid_cnt h 1
    have hk := kids_cnt h
    cases ht with
    | path hh => simp [Tr.kind]
    | app hh h1 => simp only [Tr.kind, Tr.kid, Tr.kids, List.getD_cons_zero] at *; rw [mod_fuel N _ _ _ _ h1.pos q0 h1] <;> simp
    | sealM h1 h2 =>
      simp only [Tr.kind, Tr.kid, Tr.kids, List.getD_cons_zero, List.getD_cons_succ] at *
      rw [mod_fuel N _ _ _ _ h1.pos q0 h1, sig_fuel N _ _ _ _ h2.pos q1 h2] <;> simp
      rw [mod_fuel N _ _ _ _ h1.pos q0 h1]
    | body hl =>
      simp only [Tr.kind, Tr.kids] at *
      rw [foldK_congr (f := fun i k x => declW N x.2 k (down p i) x.1) (g := fun i k x => declW (N + 1) x.2 k (down p i) x.1) _ _ _ fun u hu j x => decl_fuel N _ u _ _ (hl u hu).pos (hk u hu) (hl u hu)] <;> simp
theorem decl_fuel : ∀ (N : Nat) (x : Stt) (t : Tr) (p : Path) (w : Wk), 1 ≤ t.cnt → t.cnt ≤ N → DcW t → declW N x t p w = declW (N + 1) x t p w
  | 0, x, t, p, w, h1, h, _ => by omega
  | N + 1, x, t, p, w, _, h, ht => by
    rw [declW, declW]
    have q0 := kid_cnt h 0
    have q1 := kid_cnt h 1
    cases ht with
    | val1 ha h2 => simp [Tr.kind, Tr.kid, Tr.kids] at *; rw [expr_fuel N _ _ _ _ q0] <;> simp
    | val2 ha h1 h2 => simp [Tr.kind, Tr.kid, Tr.kids] at *; rw [typ_fuel N _ _ _ _ q0, expr_fuel N _ _ _ _ q1] <;> simp
    | typ ha h1 => simp only [Tr.kind, Tr.kid, Tr.kids, List.getD_cons_zero] at *; rw [typ_fuel N _ _ _ _ q0] <;> simp
    | data h8 h2 => simp only [Tr.kind]; rw [data_fuel (N + 1) _ _ _ _ h] <;> simp
    | str ha h2 => simp only [Tr.kind, Tr.kid, Tr.kids, List.getD_cons_zero] at *; rw [mod_fuel N _ _ _ _ h2.pos q0 h2] <;> simp
    | sg ha h2 => simp only [Tr.kind, Tr.kid, Tr.kids, List.getD_cons_zero] at *; rw [sig_fuel N _ _ _ _ h2.pos q0 h2] <;> simp
    | ftor ha hb h1 h2 =>
      simp only [Tr.kind, Tr.kid, Tr.kids, List.getD_cons_zero, List.getD_cons_succ] at *
      rw [sig_fuel N _ _ _ _ h1.pos q0 h1, mod_fuel N _ _ _ _ h2.pos q1 h2] <;> simp
    | opn h2 => simp [Tr.kind]
    | inc h2 => simp [Tr.kind]
end
theorem prog_fuel {t : Tr} (h : isB t 7 = true) {N : Nat} (hN : t.cnt ≤ N) : ∀ k, progW N t = progW (N + k) t
  | 0 => rfl
  | k + 1 => by
    rw [prog_fuel h hN k]
    obtain ⟨n, a, b, l, rfl, hl⟩ := pr_ok h
    have hk := kids_cnt (N := N + k) (t := .node 80 n a b l) (by omega)
    unfold progW
    simp only [Tr.kids] at *
    rw [foldK_congr (f := fun i u x => declW (N + k) x.2 u (down [] i) x.1) (g := fun i u x => declW (N + (k + 1)) x.2 u (down [] i) x.1) _ _ _ fun u hu j x => decl_fuel (N + k) _ u _ _ (hl u hu).pos (hk u hu) (hl u hu)]
end Go.Av
namespace Go.Av
theorem atI_head {k n : Int} {a b : Str} {l : List Tr} {q : Path} {u : Tr} (h : Tr.atI (.node k n a b l) q = some u) (hq : q ≠ []) : ∃ j : Nat, ∃ p, j < l.length ∧ q = (j : Int) :: p := by
  cases q with
  | nil => exact absurd rfl hq
  | cons i p =>
    simp only [Tr.atI] at h
    split at h
    · rename_i hi
      split at h
      · rename_i v hv
        have hlt : i.toNat < l.length := by
          rcases Nat.lt_or_ge i.toNat l.length with c | c
          · exact c
          · rw [List.getElem?_eq_none c] at hv; cases hv
        exact ⟨i.toNat, p, hlt, by rw [Int.toNat_of_nonneg hi]⟩
      · cases h
    · cases h
theorem lks_heads {k n : Int} {a b : Str} {l : List Tr} {x : Lk} (h : LkS (.node k n a b l) x) :
    (∃ j : Nat, ∃ p, j < l.length ∧ x.at' = (j : Int) :: p) ∧ ∃ j : Nat, ∃ p, j < l.length ∧ x.site = (j : Int) :: p := by
  obtain ⟨u, v, h1, h2, _, h3, h4, _⟩ := h
  refine ⟨atI_head h1 fun e => ?_, atI_head h2 h3⟩
  rw [e] at h4
  cases hs : x.site with
  | nil => exact h3 hs
  | cons i p => rw [hs] at h4; simp [ltP] at h4
theorem lead_decl (N : Nat) (x : Wk) : (declW (N + 2) ⟨[], []⟩ leadT (down [] 0) x).1 = x := by
  simp [declW, leadT, Tr.kind, Tr.kid, Tr.kids, typW, foldK]
theorem ahead_links {n : Int} {a b : Str} {l : List Tr} (h : errT (.node 80 n a b l) = 0) :
    errT (aheadT l) = 3 ∨ errT (aheadT l) = 7 ∨ errT (aheadT l) = 0 ∧ agreeB (pairsN l.length) (linksL (.node 80 n a b l)) (linksL (aheadT l)) = true := by
  have hk : checkE (.node 80 n a b l) 7 = 0 ∧ (progW (Tr.node 80 n a b l).cnt (.node 80 n a b l)).E = 0 := by
    unfold errT at h
    by_cases h2 : checkE (.node 80 n a b l) 7 = 0
    · rw [if_pos h2] at h; exact ⟨h2, h⟩
    · rw [if_neg h2] at h; exact absurd h h2
  have hB := checkE_ok hk.1
  rcases ahead_check hk.1 with hc | hc | hc
  · have hm : (aheadT l).cnt = (Tr.node 80 n a b l).cnt + 2 := by simp [aheadT, leadT, Tr.cnt, Tr.cnts]; omega
    have hf := prog_fuel hB (Nat.le_refl _) 2
    have hN : (progW (aheadT l).cnt (.node 80 n a b l)) = progW (Tr.node 80 n a b l).cnt (.node 80 n a b l) := by rw [hm, hf]
    have hp := prog_sh (n := n) (a := a) (b := b) (l := l) leadT (N := (aheadT l).cnt) (by rw [hN]; exact hk.2) (by rw [hm]; exact lead_decl _ _) (m := 0) (a' := []) (b' := [])
    rw [hN] at hp
    have he : errT (aheadT l) = 0 := by unfold errT; rw [if_pos hc]; exact hp.1
    refine .inr (.inr ⟨he, ?_⟩)
    unfold linksL
    rw [if_pos h, if_pos he]
    have : (progW (aheadT l).cnt (aheadT l)).L = (progW (Tr.node 80 n a b l).cnt (.node 80 n a b l)).L.map shL := hp.2
    rw [this]
    exact agree_shift fun k hk' => lks_heads ((progW_ws hB hk.2).2 k hk')
  · exact .inl (by unfold errT; rw [if_neg (by rw [hc]; decide)]; exact hc)
  · exact .inr (.inl (by unfold errT; rw [if_neg (by rw [hc]; decide)]; exact hc))
end Go.Av
