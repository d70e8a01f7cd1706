/-
  Go read by value: lemmas (part 22): F2, F3, F4.
-/
import Derived.Test.YtdeocbficanfaaaGreatDoorZ16
import Derived.Test.YtdeocbficanfaaaGreatDoorZ21
set_option linter.unusedVariables false
set_option linter.unusedSimpArgs false
set_option linter.unusedSectionVars false
namespace Go.Av
open Go.Proofs
variable {W0 : World}
set_option maxRecDepth 10000
set_option maxHeartbeats 4000000
def E0 : Hp := ⟨[], []⟩
theorem E0.gr (H : Hp) : Gr E0 H := ⟨by simp [E0], by simp [E0]⟩
def WKo (H : Hp) (r : Nat) (w : Wk) : Prop := ∃ vL vX, H.objs[r]? = some (.cells [vL, vX, .int .i64 w.E]) ∧ App E0 H 5 (lks w.L) vL ∧ App E0 H 5 (lks w.X) vX ∧ Parted vL vX
def Fr (P : Nat → Prop) (H H' : Hp) : Prop := H'.objs.length = H.objs.length ∧ ∀ j, ¬ P j → H'.objs[j]? = H.objs[j]?
theorem Fr.refl {P : Nat → Prop} (H : Hp) : Fr P H H := ⟨rfl, fun _ _ => rfl⟩
theorem Fr.trans {P : Nat → Prop} {H H' H'' : Hp} (h : Fr P H H') (k : Fr P H' H'') : Fr P H H'' := ⟨k.1.trans h.1, fun j hj => (k.2 j hj).trans (h.2 j hj)⟩
theorem Fr.mono {P Q : Nat → Prop} {H H' : Hp} (h : Fr P H H') (hp : ∀ j, P j → Q j) : Fr Q H H' := ⟨h.1, fun j hj => h.2 j fun k => hj (hp j k)⟩
theorem obj_lt {H : Hp} {r : Nat} {o : AObj} (h : H.objs[r]? = some o) : r < H.objs.length := (List.getElem?_eq_some_iff.1 h).1
theorem WKo.lt {H : Hp} {r : Nat} {w : Wk} (h : WKo H r w) : r < H.objs.length := let ⟨_, _, h, _⟩ := h; obj_lt h
theorem WKo.keep {H H' : Hp} {r : Nat} {w : Wk} (h : WKo H r w) (ho : H'.objs[r]? = H.objs[r]?) (hh : H'.hi = H.hi) : WKo H' r w :=
  let ⟨a, b, h1, h2, h3, h4⟩ := h; ⟨a, b, ho.trans h1, h2.same hh, h3.same hh, h4⟩
theorem wko_end {Hc : Hp} {n m r : Nat} {w : Wk} (h : WKo Hc r w) (hr : r < n) (hm : Hc.hi.length ≤ m) : WKo ⟨(Hc.objs.take n).map (clnO n m), Hc.hi.take m⟩ r w := by
  obtain ⟨a, b, h1, h2, h3, h4⟩ := h
  refine ⟨cln n m a, cln n m b, ?_, ?_, ?_, ?_⟩
  · simp only [List.getElem?_map, List.getElem?_take, hr, if_true, h1]; simp [clnO]
  · have := h2.cln n m ((Hc.objs.take n).map (clnO n m)) hm; rwa [lks_cln] at this
  · have := h3.cln n m ((Hc.objs.take n).map (clnO n m)) hm; rwa [lks_cln] at this
  · exact ((h4.cln n m).symm.cln n m).symm
theorem fr_end {H Hc : Hp} {m : Nat} {P : Nat → Prop} (hlen : H.objs.length ≤ Hc.objs.length) (hf : ∀ j, j < H.objs.length → ¬ P j → Hc.objs[j]? = H.objs[j]?) (hold : H.objs.map (clnO H.objs.length m) = H.objs) (hi : List Nat) :
    Fr P H ⟨(Hc.objs.take H.objs.length).map (clnO H.objs.length m), hi⟩ := by
  refine ⟨by simp; omega, fun j hj => ?_⟩
  simp only [List.getElem?_map, List.getElem?_take]
  split
  · rename_i hlt
    rw [hf j hlt hj]
    have := congrArg (fun l => l[j]?) hold
    simpa only [List.getElem?_map] using this
  · rename_i hge
    rw [List.getElem?_eq_none (by omega)]; rfl
theorem sf84 {U : List Str} {s : List Bd} {p : Path} {sp long : Str} {o1 o2 : Own} {H : Hp} {r : Nat} {w : Wk} (hU : U.length ≤ 60000000) (hso : SOK U s) (hs : s.length ≤ 67108863) (hp : p.length ≤ 67108863) (hsp : sp.length ≤ 10) (hl : longB long = true) (hw : WKo H r w) (hL : w.L.length ≤ 67108863) :
    SF Tryz.prog W0 84 [.ref r 0, .sl 4 (bds s) o1, .sl 1 (ints p) o2, .str sp, .str long] H fun x H' => x = .sl 6 (Hs.avs (refer w s p sp long).2) .shut ∧ WKo H' r (refer w s p sp long).1 ∧ Fr (· = r) H H' := by
  have hlt := hw.lt
  obtain ⟨vL, vX, hob, aL, aX, hpt⟩ := hw
  obtain ⟨res, hres⟩ : ∃ res, one s p sp long = res := ⟨_, rfl⟩
  refine SF.le (SF.cut (sf_start [10] 39 Tryz.func84 rfl rfl rfl (by decide) (by simp) ?_))
  unfold refer
  rw [hres]
  have hob2 : ∀ x : AObj, (H.objs ++ [x])[r]? = some (.cells [vL, vX, .int .i64 w.E]) := fun x => by rw [List.getElem?_append_left hlt]; exact hob
  rcases res with _ | ⟨k, h⟩
  · repeat' first
      | refine aSq ?_ | refine aRt ?_ | refine tN ?_ | refine tR ?_
      | (refine rg 1 ?_; refine tk 4 ?_ (by simp (disch := omega) [hob2, List.set_append_left _ _ hlt]; with_reducible rfl); refine fc en120 ?_; refine SF.then (sf120 hU hso hs hp hsp hl) ?_; rw [hres]; simp only [oneR, Lk.av]; refine tk 8 ?_ (by simp (disch := omega) [hob2, List.set_append_left _ _ hlt]; with_reducible rfl); refine dn ?_)
      | (refine ru ?_ (by simp (disch := omega) [hob2, List.set_append_left _ _ hlt]; with_reducible rfl))
      | (refine awp_if rfl (fun hb => ?_) (fun hb => ?_) <;> (try simp at hb) <;> try (exfalso; omega))
      | fail
    refine ⟨H.hi.length, Nat.le_refl _, fun hold => ⟨_, by simp; exact .nilShut 6, rfl, wko_end ⟨vL, vX, by rw [List.getElem?_append_left (by simpa using hlt)]; simp [hlt], aL.same rfl, aX.same rfl, hpt⟩ hlt (Nat.le_refl _), fr_end (by simp) (fun j hj hne => ?_) hold _⟩⟩
    simp only [List.getElem?_append_left (show j < (H.objs.set r (.cells [vL, vX, .int .i64 8])).length by simpa using hj), List.getElem?_set_ne (Ne.symm hne)]
  · repeat' first
      | refine aSq ?_ | refine aSk ?_ | refine tN ?_
      | (refine rg 1 ?_; refine tk 4 ?_; refine fc en120 ?_; refine SF.then (sf120 hU hso hs hp hsp hl) ?_; rw [hres]; simp only [oneR, Lk.av]; refine tk 8 ?_; refine dn ?_)
      | refine ru ?_
      | (refine awp_if rfl (fun hb => ?_) (fun hb => ?_) <;> (try simp at hb) <;> try (exfalso; omega))
      | fail
    · refine awp_drawJ (id := 5) (fun X => X.objs = H.objs ++ [.cells [.sl 1 (ints k.at') .shut, .str k.space, .str k.name, .sl 1 (ints k.site) .shut, .sl 1 (strs k.rest) .shut]]) [(0, true), (1, true), (2, true), (3, true), (4, true), (5, true), (6, false), (7, false), (8, false), (9, false), (10, false)] [10] tab_ok mixedT (by decide +kernel) rfl ?_
      iterate 4 refine adj_fix (mu := mu0) rfl (by decide +kernel) rfl rfl (fun X hX => by simp; rfl) ?_
      iterate 2 refine adj_fix (mu := mu0) rfl (by decide +kernel) rfl rfl (fun X hX => by simp [hX, hob2]; rfl) ?_
      refine adj_step (mu := mu0) tab_ok rfl (by simp; exact ⟨rfl, rfl⟩) (.inr rfl) ?_
      obtain ⟨v', H', e1, a2, g2, ho2, a3, p3⟩ := (aL.same (H' := ⟨H.objs ++ [.cells [.sl 1 (ints k.at') .shut, .str k.space, .str k.name, .sl 1 (ints k.site) .shut, .sl 1 (strs k.rest) .shut]], H.hi⟩) rfl).append2 (T := tab) (E0.gr _) (x := .sl 5 [k.av] .capped) (fs := [k.av]) (t := 24) (e := 38) tab24 tab38 rfl (by decide) (by simp) (by simp [Lk.av]) (by simp; omega) (aX.same rfl) hpt
      simp only [Lk.av] at e1
      refine adj_step (mu := mu0) (H' := H') tab_ok rfl (by simp [e1]; rfl) (.inr ho2) ?_
      refine adj_step (mu := mu0) tab_ok rfl (by simp; rfl) (.inr ho2) ?_
      refine adj_step (mu := mu0) tab_ok rfl (by simp; rfl) (.inr ho2) ?_
      refine adj_step (mu := mu0) tab_ok rfl (by simp [ho2, hob2, a2.cells, a2.okc, List.set_append_left _ _ hlt]; exact ⟨rfl, rfl⟩) (.inl rfl) ?_
      refine adj_nil ?_
      refine thenN ?_
      repeat' first
        | refine aSq ?_ | refine aRt ?_
        | refine ru ?_
        | fail
      refine ⟨max H.hi.length H'.hi.length, Nat.le_max_left _ _, fun hold => ⟨.sl 6 (Hs.avs h) .shut, by simp, rfl, wko_end ⟨v', vX, by rw [List.getElem?_append_left (by simpa using hlt)]; simp [hlt], ?_, a3.same rfl, p3⟩ hlt (Nat.le_max_right _ _), fr_end (by simp) (fun j hj hne => ?_) hold _⟩⟩
      · rw [lks_append]; exact a2.same rfl
      · simp only [List.getElem?_append_left (show j < (H.objs.set r (.cells [v', vX, .int .i64 w.E])).length by simpa using hj), List.getElem?_set_ne (Ne.symm hne)]
end Go.Av
namespace Go.Av
open Go.Proofs
variable {W0 : World}
set_option maxRecDepth 10000
set_option maxHeartbeats 4000000
def sttO (x : Stt) : AObj := .cells [.sl 4 (bds x.S) .shut, .sl 6 (Hs.avs x.Out) .shut]
def STo (H : Hp) (rt : Nat) (x : Stt) : Prop := H.objs[rt]? = some (sttO x)
theorem STo.set {H : Hp} {rt : Nat} (x : Stt) (h : rt < H.objs.length) : STo { H with objs := H.objs.set rt (sttO x) } rt x := by simp [STo, h]
theorem hs_le (lab bl : Str) (ins bins : List Hs) (p : Path) (br : Bool) (o1 o2 o3 : Own) : Le (.agg [.str lab, .sl 6 (Hs.avs ins) o2, .str bl, .sl 1 (ints p) o1, .bool br, .sl 6 (Hs.avs bins) o3]) (.agg (Hs.mk lab ins bl p br bins).av) := by
  simp only [Hs.av]; exact .agg (.cons (.refl _) (.cons (.sl (LeLL.refl _) (.inr rfl)) (.cons (.refl _) (.cons (.sl (LeLL.refl _) (.inr rfl)) (.cons (.refl _) (.cons (.sl (LeLL.refl _) (.inr rfl)) .nil))))))
theorem typW_node (N : Nat) (s : List Bd) (k n : Int) (a b : Str) (l : List Tr) (p : Path) (w : Wk) : typW (N + 1) s (.node k n a b l) p w =
    foldK (fun i t w => typW N (if k = 7 ∨ k = 62 ∨ k = 72 then bindB s (116 :: 58 :: a) p [] else s) t (down p i) w) 0 l (if k = 4 then (refer w s p [116] a).1 else w) := rfl
theorem sf79 {x : Stt} {lab : Str} {p : Path} {ins : List Hs} {o1 o2 : Own} {H : Hp} {rt : Nat} (hx : STo H rt x) (hS : x.S.length ≤ 67108863) (hO : x.Out.length ≤ 67108863) :
    SF Tryz.prog W0 79 [.ref rt 0, .str lab, .sl 1 (ints p) o1, .sl 6 (Hs.avs ins) o2] H fun y H' => y = .tuple [] ∧ H' = { H with objs := H.objs.set rt (sttO (x.put lab p ins)) } := by
  have hlt := obj_lt hx
  unfold STo sttO at hx
  have hset : ∀ o : AObj, (H.objs.set rt o)[rt]? = some o := fun o => by simp [hlt]
  refine sf_start [] 34 Tryz.func79 rfl rfl rfl (by decide) (by simp) ?_
  repeat' first
    | refine aSq ?_ | refine tN ?_
    | (refine rg 0 ?_; refine tk 8 ?_ (by simp [hx]; with_reducible rfl); refine fc en82 ?_; refine SF.then (sf82 hS) ?_; refine tk 3 ?_ (by simp [hx]; with_reducible rfl); refine dn ?_)
    | (refine rg 1 ?_; refine tk 12 ?_ (by simp [hset]; with_reducible rfl); refine fc en41 ?_; refine SF.then (SF.args (.cons (.refl _) (.cons (hs_le lab lab ins ins p false _ _ _) .nil)) (sf41 (l := x.Out) (own := .shut) hO)) ?_; refine tk 3 ?_ (by simp [hset]; with_reducible rfl); refine dn ?_)
    | fail
  simp [retQ, sttO, Stt.put]
theorem sf79n {x : Stt} {lab : Str} {p : Path} {o1 : Own} {H : Hp} {rt : Nat} (hx : STo H rt x) (hS : x.S.length ≤ 67108863) (hO : x.Out.length ≤ 67108863) :
    SF Tryz.prog W0 79 [.ref rt 0, .str lab, .sl 1 (ints p) o1, .slnil] H fun y H' => y = .tuple [] ∧ H' = { H with objs := H.objs.set rt (sttO (x.put lab p [])) } :=
  SF.args (.cons (.refl _) (.cons (.refl _) (.cons (.refl _) (.cons (.nilShut 6) .nil)))) (sf79 (ins := []) hx hS hO)
theorem WKo.set {H : Hp} {r rt : Nat} {w : Wk} {o : AObj} (h : WKo H r w) (hne : r ≠ rt) : WKo { H with objs := H.objs.set rt o } r w := h.keep (by simp only; rw [List.getElem?_set_ne (Ne.symm hne)]) rfl
theorem STo.fr {H H' : Hp} {rt : Nat} {x : Stt} {P : Nat → Prop} (h : STo H rt x) (hf : Fr P H H') (hne : ¬ P rt) : STo H' rt x := (hf.2 rt hne).trans h
theorem Fr.set {P : Nat → Prop} {H : Hp} {rt : Nat} {o : AObj} (hp : P rt) : Fr P H { H with objs := H.objs.set rt o } :=
  ⟨by simp, fun j hj => by simp only; rw [List.getElem?_set_ne]; rintro rfl; exact hj hp⟩
theorem pos_len : ∀ {l : List Tr}, (∀ t ∈ l, 1 ≤ t.cnt) → l.length ≤ Tr.cnts l
  | [], _ => Nat.le_refl _
  | t :: l, h => by
    have := pos_len (l := l) fun u hu => h u (.tail _ hu)
    have := h t (.head _)
    simp only [List.length_cons, Tr.cnts]; omega
theorem sf76 {U : List Str} (hU : U.length ≤ 60000000) : ∀ (N : Nat) (t : Tr) (s : List Bd) (p : Path) (o1 o2 : Own) (H : Hp) (r : Nat) (w : Wk), t.cnt ≤ N → TyW t → SOK U s → s.length + t.cnt ≤ 67108863 → p.length + t.cnt ≤ 10000 → w.L.length + t.cnt ≤ 67108863 → WKo H r w →
    SF Tryz.prog W0 76 [.ref r 0, .sl 4 (bds s) o1, t.av, .sl 1 (ints p) o2] H fun x H' => x = .tuple [] ∧ WKo H' r (typW N s t p w) ∧ Fr (· = r) H H' := by
  intro N
  induction N with
  | zero =>
    intro t s p o1 o2 H r w hN ht
    have := ht.pos
    omega
  | succ N ih =>
    intro t s p o1 o2 H r w hN ht hso hsl hpl hL hw
    obtain ⟨h4, ha, hl⟩ := ht
    rename_i k n a b l
    simp only [Tr.cnt] at hN hsl hpl hL
    rw [typW_node]
    simp only [Tr.av]
    have hll := pos_len fun t ht => (hl t ht).pos
    obtain ⟨w1, hw1⟩ : ∃ w1, (if k = 4 then (refer w s p [116] a).1 else w) = w1 := ⟨_, rfl⟩
    obtain ⟨s1, hs1⟩ : ∃ s1, (if k = 7 ∨ k = 62 ∨ k = 72 then bindB s (116 :: 58 :: a) p [] else s) = s1 := ⟨_, rfl⟩
    have hL1 : w1.L.length ≤ w.L.length + 1 := by rw [← hw1]; split; exact (refer_L ..).1; omega
    have hsl1 : s1.length ≤ s.length + 1 := by rw [← hs1]; split <;> simp [bindB]
    have hso1 : SOK U s1 := by rw [← hs1]; split; exact bindB_ok hso (by simp) (by simp; omega) (by omega) .nil; exact hso
    rw [hw1, hs1]
    obtain ⟨fin, hfin⟩ : ∃ fin, foldK (fun i t w => typW N s1 t (down p i) w) 0 l w1 = fin := ⟨_, rfl⟩
    rw [hfin]
    refine sf_start [] 71 Tryz.func76 rfl rfl rfl (by decide) (by simp) ?_
    repeat' first
      | (refine cutIf 0 (fun s' => ∃ H1, Sub s' ⟨71, [(0, .ref r 0), (1, .sl 4 (bds s) o1), (2, .ptr [.int .i64 k, .int .i64 n, .str a, .str b, .sl 1 (Tr.avs l) .shut]), (3, .sl 1 (ints p) o2)], H1⟩ ∧ WKo H1 r w1 ∧ Fr (· = r) H H1) (aSq ?_) (fun s' ⟨H1, hs', hwa, hfa⟩ => thenN (awp_sub hs' ?_)))
      | (refine cutIf 2 (fun s' => Sub s' ⟨71, [(0, .ref r 0), (1, .sl 4 (bds s1) .shut), (2, .ptr [.int .i64 k, .int .i64 n, .str a, .str b, .sl 1 (Tr.avs l) .shut]), (3, .sl 1 (ints p) o2)], H1⟩) (aSq ?_) (fun s' hs' => thenN (awp_sub hs' ?_)))
      | refine aSq ?_ | refine aSk ?_ | refine aBl ?_ | refine tN ?_
      | (refine rg 1 ?_; refine tk 7 ?_ (by simp (disch := omega) [small_if]; with_reducible rfl); refine fc en84 ?_; refine (sf84 hU hso (by omega) (by omega) (by simp) (h4 (by assumption)) hw (by omega)).mono ?_; rintro x1 H1 ⟨rfl, hwb, hfb⟩; refine dn ?_)
      | (refine rg 2 ?_; refine tk 5 ?_ (by simp (disch := omega) [small_if]; with_reducible rfl); (first | (refine te (hs := (by simp (disch := omega) [small_if]; with_reducible rfl)) (fun hb => ?_) (fun hb => ?_) <;> (try simp at hb) <;> try (exfalso; omega)) | (refine tk 1 ?_ (by simp (disch := omega) [small_if]; with_reducible rfl))); all_goals (refine tk 6 ?_ (by simp (disch := omega) [small_if]; with_reducible rfl); (first | (refine te (hs := (by simp (disch := omega) [small_if]; with_reducible rfl)) (fun hb => ?_) (fun hb => ?_) <;> (try simp at hb) <;> try (exfalso; omega)) | (refine tk 1 ?_ (by simp (disch := omega) [small_if]; with_reducible rfl))); all_goals (refine tk 6 ?_ (by simp (disch := omega) [small_if]; with_reducible rfl); refine dn ?_)))
      | (refine rg 3 ?_; refine tk 7 ?_ (by simp (disch := omega) [small_if]; with_reducible rfl); refine fc en82 ?_; refine SF.then (sf82n (by omega)) ?_; refine tk 1 ?_ (by simp (disch := omega) [small_if]; with_reducible rfl); refine dn ?_)
      | (refine ru ?_ (by simp (disch := omega) [small_if]; with_reducible rfl))
      | (refine awp_if rfl (fun hb => ?_) (fun hb => ?_) <;> (try simp at hb) <;> try (exfalso; omega))
      | fail
    · exact ⟨rfl, H1, sb, by rw [← hw1, if_pos hb]; exact hwb, hfb⟩
    · exact ⟨rfl, H, sb, by rw [← hw1, if_neg hb]; exact hw, Fr.refl H⟩
    iterate 3
      · have e : s1 = bindB s (116 :: 58 :: a) p [] := by rw [← hs1, if_pos (by simp [*])]
        rw [e]
        exact ⟨rfl, sb⟩
    · have e : s1 = s := by rw [← hs1, if_neg (by simp [*])]
      rw [e]
      exact ⟨rfl, sb⟩
    clear hs' hs1 hw1 hw
    refine awp_loop_inv (fun q st => ∃ (i : Nat) (cur : Wk) (Hc : Hp), q = l.length - i ∧ i ≤ l.length ∧ foldK (fun i t w => typW N s1 t (down p i) w) i (l.drop i) cur = fin ∧ cur.L.length ≤ w.L.length + 1 + Tr.cnts (l.take i) ∧ WKo Hc r cur ∧ Fr (· = r) H Hc ∧
      Sub st ⟨71, [(0, .ref r 0), (1, .sl 4 (bds s1) .shut), (2, .ptr [.int .i64 k, .int .i64 n, .str a, .str b, .sl 1 (Tr.avs l) .shut]), (3, .sl 1 (ints p) o2), (8, .int .i64 i)], Hc⟩) l.length
      ⟨0, w1, H1, by simp, by simp, hfin, by simp [Tr.cnts]; omega, hwa, hfa, sb⟩ ?_
    clear hfin hwa hfa
    rintro q st ⟨i, cur, Hc, rfl, hi, hfo, hcl, hwc, hfc, hs2⟩
    refine awp_sub hs2 ?_
    clear hs2 st
    repeat' first
      | refine aSq ?_ | refine aSk ?_ | refine aEx ?_ | refine aBl ?_ | refine tN ?_ | refine tE ?_
      | (refine dr 7 [(0, true), (1, true), (2, true), (3, true), (4, true), (5, true), (6, true), (7, true), (8, true), (9, true), (10, true), (11, false), (12, false)] [12] ?_; refine dh 11 ?_; refine df en77 ?_; refine SF.then (sf77 (by omega)) ?_; refine ⟨.inr rfl, ?_⟩; refine df en76 ?_; (have hlt : i < l.length := by assumption); (have q1 := Tr.cnts_take l i hlt); (have q2 := Tr.cnts_take_le l (i + 1)); (have q3 := Tr.cnts_le l i hlt); (have q4 := typW_len N s1 l[i] (down p i) cur); refine (ih l[i] s1 (down p i) .shut .shut Hc r cur (by omega) (hl _ (List.getElem_mem hlt)) hso1 (by omega) (by rw [down_len]; omega) (by omega) hwc).mono ?_; rintro x1 H2 ⟨rfl, hwb, hfb⟩; refine ⟨.inl rfl, ?_⟩; refine adr_nil ?_)
      | refine ru ?_
      | (refine awp_if rfl (fun hb => ?_) (fun hb => ?_) <;> (try simp at hb) <;> try (exfalso; omega))
      | fail
    · have hlt : i < l.length := by assumption
      rw [foldK_drop _ hlt] at hfo
      exact ⟨l.length - (i + 1), by omega, i + 1, _, H2, rfl, by omega, hfo, by have := q4.1; omega, hwb, hfc.trans hfb, sb⟩
    · rw [foldK_end _ (by omega)] at hfo
      subst hfo
      exact ⟨rfl, hwc, hfc⟩
theorem putKids_drop {p : Path} {l : List Tr} {i : Nat} (h : i < l.length) (x : Stt) : putKids p (l.drop i) x = putKids p (l.drop (i + 1)) (x.put (118 :: 58 :: l[i].name) p []) := by
  rw [List.drop_eq_getElem_cons h]; rfl
theorem put_lenS (x : Stt) (lab : Str) (p : Path) (ins : List Hs) : (x.put lab p ins).S.length = x.S.length + 1 ∧ (x.put lab p ins).Out.length ≤ x.Out.length + 1 := ⟨by simp [Stt.put, bindB], put_len ..⟩
theorem kid8 {l : List Tr} (h8 : ∀ t ∈ l, t.kind = 8) {i : Nat} (h : i < l.length) : ∃ n a b ks, l[i] = .node 8 n a b ks := by
  have := h8 l[i] (List.getElem_mem h)
  cases hk : l[i] with
  | none => rw [hk] at this; simp [Tr.kind] at this
  | node k n a b ks => rw [hk] at this; obtain rfl : k = 8 := this; exact ⟨n, a, b, ks, rfl⟩
theorem sf80 {U : List Str} (hU : U.length ≤ 60000000) {N : Nat} {k n : Int} {a b : Str} {l : List Tr} {x : Stt} {p : Path} {o2 : Own} {H : Hp} {r rt : Nat} {w : Wk} (hN : (Tr.node k n a b l).cnt ≤ N) (ht : TyW (.node k n a b l)) (h8 : ∀ t ∈ l, t.kind = 8) (hso : SOK U x.S) (hsl : x.S.length + (Tr.node k n a b l).cnt ≤ 67108862)
    (hol : x.Out.length + (Tr.node k n a b l).cnt ≤ 67108862) (hpl : p.length + (Tr.node k n a b l).cnt ≤ 10000) (hL : w.L.length + (Tr.node k n a b l).cnt ≤ 67108862) (hw : WKo H r w) (hx : STo H rt x) (hne : rt ≠ r) :
    SF Tryz.prog W0 80 [.ref r 0, .ref rt 0, (Tr.node k n a b l).av, .sl 1 (ints p) o2] H fun y H' => y = .tuple [] ∧ WKo H' r (dataW N x (.node k n a b l) p w).1 ∧ STo H' rt (dataW N x (.node k n a b l) p w).2 ∧ Fr (fun j => j = r ∨ j = rt) H H' := by
  have h76 := fun o1 o2 => sf76 (W0 := W0) hU N (.node k n a b l) x.S p o1 o2 H r w hN ht hso (by omega) (by omega) (by omega) hw
  have ha := ht.len
  simp only [Tr.name] at ha
  have hcl := kinds8_len h8
  have hobx : H.objs[rt]? = some (.cells [.sl 4 (bds x.S) .shut, .sl 6 (Hs.avs x.Out) .shut]) := hx
  simp only [dataW, Tr.kids, Tr.name]
  simp only [Tr.av] at h76 ⊢
  simp only [Tr.cnt] at hN hsl hol hpl hL
  refine sf_start [] 48 Tryz.func80 rfl rfl rfl (by decide) (by simp) ?_
  repeat' first
    | refine aSq ?_ | refine aBl ?_
    | (refine rg 0 ?_; refine tk 7 ?_ (by simp (disch := omega) [hobx, small_if]; with_reducible rfl); refine fc en76 ?_; refine (h76 .shut o2).mono ?_; rintro x1 H1 ⟨rfl, hwb, hfb⟩; have hx1 : STo H1 rt x := hx.fr hfb hne; refine dn ?_)
    | (refine rg 1 ?_; refine tk 7 ?_ (by simp (disch := omega) [hobx, small_if]; with_reducible rfl); refine fc en79 ?_; refine (sf79n hx1 (by omega) (by omega)).mono ?_; rintro x1 H2 ⟨rfl, rfl⟩; refine dn ?_)
    | (refine ru ?_ (by simp (disch := omega) [hobx, small_if]; with_reducible rfl))
    | fail
  obtain ⟨fin, hfin⟩ : ∃ fin, putKids p l (x.put (116 :: 58 :: a) p []) = fin := ⟨_, rfl⟩
  rw [hfin]
  have hq := put_lenS x (116 :: 58 :: a) p []
  have hkl : ∀ t ∈ l, TyW t := by cases ht; assumption
  have hlt := obj_lt hx1
  refine awp_loop_inv (fun q st => ∃ (i : Nat) (cur : Stt) (Hc : Hp), q = l.length - i ∧ i ≤ l.length ∧ putKids p (l.drop i) cur = fin ∧ cur.S.length ≤ x.S.length + 1 + i ∧ cur.Out.length ≤ x.Out.length + 1 + i ∧ WKo Hc r (typW N x.S (.node k n a b l) p w) ∧ STo Hc rt cur ∧ Fr (fun j => j = r ∨ j = rt) H Hc ∧
    Sub st ⟨48, [(1, .ref rt 0), (2, .ptr [.int .i64 k, .int .i64 n, .str a, .str b, .sl 1 (Tr.avs l) .shut]), (3, .sl 1 (ints p) o2), (8, .int .i64 i)], Hc⟩) l.length
    ⟨0, x.put (116 :: 58 :: a) p [], _, by simp, by simp, hfin, by omega, by omega, hwb.set (Ne.symm hne), STo.set _ hlt, (hfb.mono fun j h => .inl h).trans (Fr.set (.inr rfl)), sb⟩ ?_
  clear hfin hwb hfb hx1 hx hw h76
  rintro q st ⟨i, cur, Hc, rfl, hi, hpk, hcs, hco, hwc, hxc, hfc, hs2⟩
  refine awp_sub hs2 ?_
  clear hs2 st
  repeat' first
    | refine aSq ?_ | refine aSk ?_ | refine aEx ?_ | refine aBl ?_ | refine tN ?_ | refine tE ?_
    | (refine rg 5 ?_; (have hlt : i < l.length := by assumption); obtain ⟨n', a', b', ks, e⟩ := kid8 h8 hlt; (have hna : a'.length ≤ 128 := by have := (hkl _ (List.getElem_mem hlt)).len; rw [e] at this; exact this); (have eav : l[i].av = .ptr [.int .i64 8, .int .i64 n', .str a', .str b', .sl 1 (Tr.avs ks) .shut] := by rw [e]; simp only [Tr.av]); refine tk 13 ?_ (by simp (disch := omega) [eav, small_if]; with_reducible rfl); refine fc en79 ?_; refine (sf79n hxc (by omega) (by omega)).mono ?_; rintro x1 H2 ⟨rfl, rfl⟩; refine dn ?_)
    | (refine ru ?_ (by simp (disch := omega) [small_if]; with_reducible rfl))
    | (refine awp_if rfl (fun hb => ?_) (fun hb => ?_) <;> (try simp at hb) <;> try (exfalso; omega))
    | fail
  · have hlt2 := obj_lt hxc
    have hq2 := put_lenS cur (118 :: 58 :: a') p []
    rw [putKids_drop hlt, e] at hpk
    exact ⟨l.length - (i + 1), by omega, i + 1, _, _, rfl, by omega, hpk, by simp only [Tr.name]; omega, by simp only [Tr.name]; omega, hwc.set (Ne.symm hne), STo.set _ hlt2, hfc.trans (Fr.set (.inr rfl)), sb⟩
  · rw [List.drop_of_length_le (by omega)] at hpk
    simp only [putKids] at hpk
    subst hpk
    exact ⟨rfl, hwc, hxc, hfc⟩
end Go.Av
namespace Go.Av
open Go.Proofs
variable {W0 : World}
set_option maxRecDepth 10000
set_option maxHeartbeats 4000000
def WS (W0 : World) (U : List Str) (f : FuncId) (W : Nat → List Bd → Tr → Path → Wk → Wk) (OK : Tr → Prop) (N : Nat) : Prop :=
  ∀ (t : Tr) (s : List Bd) (p : Path) (o1 o2 : Own) (H : Hp) (r : Nat) (w : Wk), t.cnt ≤ N → OK t → SOK U s → s.length + t.cnt ≤ 67108863 → p.length + t.cnt ≤ 10000 → w.L.length + t.cnt ≤ 67108863 → WKo H r w →
    SF Tryz.prog W0 f [.ref r 0, .sl 4 (bds s) o1, t.av, .sl 1 (ints p) o2] H fun x H' => x = .tuple [] ∧ WKo H' r (W N s t p w) ∧ Fr (· = r) H H'
theorem exprW_node (N : Nat) (s : List Bd) (k n : Int) (a b : Str) (l : List Tr) (p : Path) (w : Wk) : exprW (N + 1) s (.node k n a b l) p w =
    foldK (fun i t w => if (k = 24 ∧ i = 0) ∨ (k = 33 ∧ i = 1) then typW N s t (down p i) w
      else exprW N (if k = 24 ∨ (k = 29 ∧ i = 1) then bindB s (118 :: 58 :: a) p [] else if k = 34 then bindB s (118 :: 58 :: b) p [] else s) t (down p i) w) 0 l (if k = 23 then (refer w s p [118] a).1 else w) := rfl
theorem exprW_var (N : Nat) (s : List Bd) (n : Int) (a b : Str) (p : Path) (w : Wk) : exprW (N + 1) s (.node 23 n a b []) p w = (refer w s p [118] a).1 := by simp [exprW_node, foldK]
theorem exprW_lam (N : Nat) (s : List Bd) (n : Int) (a b : Str) (t e : Tr) (p : Path) (w : Wk) : exprW (N + 1) s (.node 24 n a b [t, e]) p w = exprW N (bindB s (118 :: 58 :: a) p []) e (down p 1) (typW N s t (down p 0) w) := by simp [exprW_node, foldK]
theorem exprW_bnd (N : Nat) (s : List Bd) (n : Int) (a b : Str) (t e : Tr) (p : Path) (w : Wk) : exprW (N + 1) s (.node 29 n a b [t, e]) p w = exprW N (bindB s (118 :: 58 :: a) p []) e (down p 1) (exprW N s t (down p 0) w) := by simp [exprW_node, foldK]
theorem exprW_arm (N : Nat) (s : List Bd) (n : Int) (a b : Str) (e : Tr) (p : Path) (w : Wk) : exprW (N + 1) s (.node 34 n a b [e]) p w = exprW N (bindB s (118 :: 58 :: b) p []) e (down p 0) w := by simp [exprW_node, foldK]
def exprF (N : Nat) (s : List Bd) (k : Int) (p : Path) (i : Nat) (t : Tr) (w : Wk) : Wk := if k = 33 ∧ i = 1 then typW N s t (down p i) w else exprW N s t (down p i) w
theorem exprW_other (N : Nat) (s : List Bd) (k n : Int) (a b : Str) (l : List Tr) (p : Path) (w : Wk) (h1 : k ≠ 23) (h2 : k ≠ 24) (h3 : k ≠ 29) (h5 : k ≠ 34) : exprW (N + 1) s (.node k n a b l) p w = foldK (exprF N s k p) 0 l w := by
  simp [exprW_node, h1, h2, h3, h5]; rfl
theorem exprF_len (N : Nat) (s : List Bd) (k : Int) (p : Path) (i : Nat) (t : Tr) (w : Wk) : LenOK w (exprF N s k p i t w) t.cnt := by
  unfold exprF; split
  · exact typW_len ..
  · exact exprW_len ..
theorem sf78 {U : List Str} (hU : U.length ≤ 60000000) : ∀ N, WS W0 U 78 exprW ExW N := by
  intro N
  induction N with
  | zero =>
    intro t s p o1 o2 H r w hN ht
    have := ht.pos
    omega
  | succ N ih =>
    intro t s p o1 o2 H r w hN ht hso hsl hpl hL hw
    have key : ∀ (k n : Int) (a b : Str) (l : List Tr), k ≠ 23 → k ≠ 24 → k ≠ 29 → k ≠ 34 → (∀ t ∈ l, 1 ≤ t.cnt) → (∀ i (h : i < l.length), if k = 33 ∧ i = 1 then TyW l[i] else ExW l[i]) → t = .node k n a b l →
        SF Tryz.prog W0 78 [.ref r 0, .sl 4 (bds s) o1, t.av, .sl 1 (ints p) o2] H fun x H' => x = .tuple [] ∧ WKo H' r (exprW (N + 1) s t p w) ∧ Fr (· = r) H H' := by
      rintro k n a b l h1 h2 h3 h5 hpos hk rfl
      have hll := pos_len hpos
      simp only [Tr.cnt] at hN hsl hpl hL
      rw [exprW_other N s k n a b l p w h1 h2 h3 h5]
      obtain ⟨fin, hfin⟩ : ∃ fin, foldK (exprF N s k p) 0 l w = fin := ⟨_, rfl⟩
      rw [hfin]
      simp only [Tr.av]
      refine sf_start [] 130 Tryz.func78 rfl rfl rfl (by decide) (by simp) ?_
      repeat' first
        | refine aSq ?_ | refine aBl ?_ | refine tN ?_
        | refine ru ?_
        | (refine awp_if rfl (fun hb => ?_) (fun hb => ?_) <;> (try simp at hb) <;> try (exfalso; omega))
        | fail
      refine awp_loop_inv (fun q st => ∃ (i : Nat) (cur : Wk) (Hc : Hp), q = l.length - i ∧ i ≤ l.length ∧ foldK (exprF N s k p) i (l.drop i) cur = fin ∧ cur.L.length ≤ w.L.length + Tr.cnts (l.take i) ∧ WKo Hc r cur ∧ Fr (· = r) H Hc ∧
        Sub st ⟨130, [(0, .ref r 0), (1, .sl 4 (bds s) o1), (2, .ptr [.int .i64 k, .int .i64 n, .str a, .str b, .sl 1 (Tr.avs l) .shut]), (3, .sl 1 (ints p) o2), (8, .sl 1 (Tr.avs l) .shut), (9, .int .i64 i)], Hc⟩) l.length
        ⟨0, w, H, by simp, by simp, hfin, by simp [Tr.cnts], hw, Fr.refl H, sb⟩ ?_
      clear hfin hw
      rintro q st ⟨i, cur, Hc, rfl, hi, hfo, hcl, hwc, hfc, hs2⟩
      refine awp_sub hs2 ?_
      clear hs2 st
      repeat' first
        | refine aSq ?_ | refine aSk ?_ | refine aEx ?_ | refine aBl ?_ | refine tN ?_ | refine tE ?_
        | (refine rg 5 ?_; refine tk 5 ?_; (first | (refine te (fun hb => ?_) (fun hb => ?_) <;> (try simp at hb) <;> try (exfalso; omega)) | (refine tk 1 ?_)); all_goals (refine tk 3 ?_; refine dn ?_))
        | (refine dr 6 [(0, true), (1, true), (2, true), (3, true), (4, true), (5, true), (6, true), (7, true), (8, false), (9, false)] [9] ?_; refine dh 8 ?_; refine df en77 ?_; refine SF.then (sf77 (by omega)) ?_; refine ⟨.inr rfl, ?_⟩; refine df en76 ?_; (have hlt : i < l.length := by assumption); (have q1 := Tr.cnts_take l i hlt); (have q2 := Tr.cnts_take_le l (i + 1)); (have q3 := Tr.cnts_le l i hlt); (have q4 := exprF_len N s k p i l[i] cur); (have hty := hk i hlt); (have hc : k = 33 ∧ i = 1 := ⟨by omega, by omega⟩); rw [if_pos hc] at hty; refine (sf76 hU N l[i] s (down p i) o1 .shut Hc r cur (by omega) hty hso (by omega) (by rw [down_len]; omega) (by omega) hwc).mono ?_; rintro x1 H2 ⟨rfl, hwb, hfb⟩; rw [show typW N s l[i] (down p i) cur = exprF N s k p i l[i] cur from by rw [exprF, if_pos hc]] at hwb; refine ⟨.inl rfl, ?_⟩; refine adr_nil ?_)
        | (refine dr 7 [(0, true), (1, true), (2, true), (3, true), (4, true), (5, true), (6, true), (7, true), (8, false), (9, false)] [9] ?_; refine dh 8 ?_; refine df en77 ?_; refine SF.then (sf77 (by omega)) ?_; refine ⟨.inr rfl, ?_⟩; refine df en78 ?_; (have hlt : i < l.length := by assumption); (have q1 := Tr.cnts_take l i hlt); (have q2 := Tr.cnts_take_le l (i + 1)); (have q3 := Tr.cnts_le l i hlt); (have q4 := exprF_len N s k p i l[i] cur); (have hty := hk i hlt); (have hc : ¬ (k = 33 ∧ i = 1) := by rintro ⟨c1, c2⟩; omega); rw [if_neg hc] at hty; refine (ih l[i] s (down p i) o1 .shut Hc r cur (by omega) hty hso (by omega) (by rw [down_len]; omega) (by omega) hwc).mono ?_; rintro x1 H2 ⟨rfl, hwb, hfb⟩; rw [show exprW N s l[i] (down p i) cur = exprF N s k p i l[i] cur from by rw [exprF, if_neg hc]] at hwb; refine ⟨.inl rfl, ?_⟩; refine adr_nil ?_)
        | refine ru ?_
        | (refine awp_if rfl (fun hb => ?_) (fun hb => ?_) <;> (try simp at hb) <;> try (exfalso; omega))
        | fail
      all_goals first
        | (rw [foldK_drop _ hlt] at hfo
           exact ⟨l.length - (i + 1), by omega, i + 1, _, H2, rfl, by omega, hfo, by have := q4.1; omega, hwb, hfc.trans hfb, sb⟩)
        | (rw [foldK_end _ (by omega)] at hfo
           subst hfo
           exact ⟨rfl, hwc, hfc⟩)
        | skip
    cases ht with
    | other h1 h2 h3 h4 h5 hl => exact key _ _ _ _ _ h1 h2 h3 h5 (fun t ht => (hl t ht).pos) (fun i h => by rw [if_neg (fun c => h4 c.1)]; exact hl _ (List.getElem_mem h)) rfl
    | @fold n a b e t l g1 g2 g3 =>
      have hp : ∀ x ∈ e :: t :: l, 1 ≤ x.cnt := by
        intro x hx
        rcases List.mem_cons.1 hx with rfl | hx
        · exact g1.pos
        · rcases List.mem_cons.1 hx with rfl | hx
          · exact g2.pos
          · exact (g3 x hx).pos
      have hq : ∀ i (h : i < (e :: t :: l).length), if (33 : Int) = 33 ∧ i = 1 then TyW (e :: t :: l)[i] else ExW (e :: t :: l)[i] := by
        intro i h
        rcases i with _ | _ | i
        · simpa using g1
        · simpa using g2
        · rw [if_neg (by omega)]; simpa using g3 _ (List.getElem_mem _)
      exact key 33 n a b _ (by decide) (by decide) (by decide) (by decide) hp hq rfl
    | @var n a b h =>
      rw [exprW_var]
      simp only [Tr.av, Tr.cnt, Tr.cnts] at *
      refine sf_start [] 130 Tryz.func78 rfl rfl rfl (by decide) (by simp) ?_
      repeat' first
        | refine aSq ?_ | refine aBl ?_ | refine tN ?_
        | (refine rg 9 ?_; refine tk 7 ?_; refine fc en84 ?_; refine (sf84 hU hso (by omega) (by omega) (by simp) h hw (by omega)).mono ?_; rintro x1 H1 ⟨rfl, hwb, hfb⟩; refine dn ?_)
        | refine ru ?_
        | (refine awp_if rfl (fun hb => ?_) (fun hb => ?_) <;> (try simp at hb) <;> try (exfalso; omega))
        | refine inN ?_
      exact ⟨rfl, hwb, hfb⟩
    | @lam n a b t e ha g1 g2 =>
      rw [exprW_lam]
      simp only [Tr.cnt, Tr.cnts] at hN hsl hpl hL
      simp only [Tr.av]
      have q4 := typW_len N s t (down p 0) w
      refine sf_start [] 130 Tryz.func78 rfl rfl rfl (by decide) (by simp) ?_
      repeat' first
        | refine aSq ?_ | refine aBl ?_ | refine tN ?_
        | (refine dr 11 [(0, true), (1, true), (2, true), (3, true), (4, true), (5, true), (6, false), (7, false)] [7] ?_; refine dh 6 ?_ (h := (by simp (disch := omega) [Tr.avs, small_if]; with_reducible rfl)); refine df en77 ?_; refine SF.then (sf77 (by omega)) ?_; refine ⟨.inr rfl, ?_⟩; refine df en76 ?_; refine (sf76 hU N t s (down p 0) o1 .shut H r w (by omega) g1 hso (by omega) (by rw [down_len]; omega) (by omega) hw).mono ?_; rintro x1 H1 ⟨rfl, hwb, hfb⟩; refine ⟨.inl rfl, ?_⟩; refine adr_nil ?_)
        | (refine dr 12 [(0, true), (1, true), (2, true), (3, true), (4, true), (5, true), (6, true), (7, true), (9, true), (10, true), (11, true), (12, true), (8, false), (13, false), (14, false)] [14] ?_; refine dh 12 ?_ (h := (by simp (disch := omega) [Tr.avs, small_if]; with_reducible rfl)); refine df en82 ?_; refine SF.then (sf82n (by omega)) ?_; refine ⟨.inr rfl, ?_⟩; refine df en77 ?_; refine SF.then (sf77 (by omega)) ?_; refine ⟨.inr rfl, ?_⟩; refine df en78 ?_; refine (ih e (bindB s (118 :: 58 :: a) p []) (down p 1) .shut .shut H1 r _ (by omega) g2 (bindB_ok hso (by simp) (by simp; omega) (by omega) .nil) (by simp [bindB]; omega) (by rw [down_len]; omega) (by have := q4.1; omega) hwb).mono ?_; rintro x1 H2 ⟨rfl, hwc, hfc⟩; refine ⟨.inl rfl, ?_⟩; refine adr_nil ?_)
        | (refine ru ?_ (by simp (disch := omega) [Tr.avs, small_if]; with_reducible rfl))
        | (refine awp_if rfl (fun hb => ?_) (fun hb => ?_) <;> (try simp at hb) <;> try (exfalso; omega))
        | refine inN ?_
      exact ⟨rfl, hwc, hfb.trans hfc⟩
    | @bnd n a b t e ha g1 g2 =>
      rw [exprW_bnd]
      simp only [Tr.cnt, Tr.cnts] at hN hsl hpl hL
      simp only [Tr.av]
      have q4 := exprW_len N s t (down p 0) w
      refine sf_start [] 130 Tryz.func78 rfl rfl rfl (by decide) (by simp) ?_
      repeat' first
        | refine aSq ?_ | refine aBl ?_ | refine tN ?_
        | (refine dr 14 [(0, true), (1, true), (2, true), (3, true), (4, true), (5, true), (6, false), (7, false)] [7] ?_; refine dh 6 ?_ (h := (by simp (disch := omega) [Tr.avs, small_if]; with_reducible rfl)); refine df en77 ?_; refine SF.then (sf77 (by omega)) ?_; refine ⟨.inr rfl, ?_⟩; refine df en78 ?_; (first | (refine (ih e (bindB s (118 :: 58 :: a) p []) (down p 1) .shut .shut H1 r _ (by omega) g2 (bindB_ok hso (by simp) (by simp; omega) (by omega) .nil) (by simp [bindB]; omega) (by rw [down_len]; omega) (by have := q4.1; omega) hwb).mono ?_; rintro x1 H2 ⟨rfl, hwc, hfc⟩) | (refine (ih t s (down p 0) o1 .shut H r w (by omega) g1 hso (by omega) (by rw [down_len]; omega) (by omega) hw).mono ?_; rintro x1 H1 ⟨rfl, hwb, hfb⟩)); refine ⟨.inl rfl, ?_⟩; refine adr_nil ?_)
        | (refine dr 15 [(0, true), (1, true), (2, true), (3, true), (4, true), (5, true), (6, true), (7, true), (9, true), (10, true), (11, true), (12, true), (8, false), (13, false), (14, false)] [14] ?_; refine dh 12 ?_ (h := (by simp (disch := omega) [Tr.avs, small_if]; with_reducible rfl)); refine df en82 ?_; refine SF.then (sf82n (by omega)) ?_; refine ⟨.inr rfl, ?_⟩; refine df en77 ?_; refine SF.then (sf77 (by omega)) ?_; refine ⟨.inr rfl, ?_⟩; refine df en78 ?_; (first | (refine (ih e (bindB s (118 :: 58 :: a) p []) (down p 1) .shut .shut H1 r _ (by omega) g2 (bindB_ok hso (by simp) (by simp; omega) (by omega) .nil) (by simp [bindB]; omega) (by rw [down_len]; omega) (by have := q4.1; omega) hwb).mono ?_; rintro x1 H2 ⟨rfl, hwc, hfc⟩) | (refine (ih t s (down p 0) o1 .shut H r w (by omega) g1 hso (by omega) (by rw [down_len]; omega) (by omega) hw).mono ?_; rintro x1 H1 ⟨rfl, hwb, hfb⟩)); refine ⟨.inl rfl, ?_⟩; refine adr_nil ?_)
        | (refine ru ?_ (by simp (disch := omega) [Tr.avs, small_if]; with_reducible rfl))
        | (refine awp_if rfl (fun hb => ?_) (fun hb => ?_) <;> (try simp at hb) <;> try (exfalso; omega))
        | refine inN ?_
      exact ⟨rfl, hwc, hfb.trans hfc⟩
    | @arm n a b e hb' g2 =>
      rw [exprW_arm]
      simp only [Tr.cnt, Tr.cnts] at hN hsl hpl hL
      simp only [Tr.av]
      refine sf_start [] 130 Tryz.func78 rfl rfl rfl (by decide) (by simp) ?_
      repeat' first
        | refine aSq ?_ | refine aBl ?_ | refine tN ?_
        | (refine dr 17 [(0, true), (1, true), (2, true), (3, true), (4, true), (5, true), (6, true), (7, true), (9, true), (10, true), (11, true), (12, true), (8, false), (13, false), (14, false)] [14] ?_; refine dh 12 ?_ (h := (by simp (disch := omega) [Tr.avs, small_if]; with_reducible rfl)); refine df en82 ?_; refine SF.then (sf82n (by omega)) ?_; refine ⟨.inr rfl, ?_⟩; refine df en77 ?_; refine SF.then (sf77 (by omega)) ?_; refine ⟨.inr rfl, ?_⟩; refine df en78 ?_; refine (ih e (bindB s (118 :: 58 :: b) p []) (down p 0) .shut .shut H r w (by omega) g2 (bindB_ok hso (by simp) (by simp; omega) (by omega) .nil) (by simp [bindB]; omega) (by rw [down_len]; omega) (by omega) hw).mono ?_; rintro x1 H2 ⟨rfl, hwc, hfc⟩; refine ⟨.inl rfl, ?_⟩; refine adr_nil ?_)
        | (refine ru ?_ (by simp (disch := omega) [Tr.avs, small_if]; with_reducible rfl))
        | (refine awp_if rfl (fun hb => ?_) (fun hb => ?_) <;> (try simp at hb) <;> try (exfalso; omega))
        | refine inN ?_
      exact ⟨rfl, hwc, hfc⟩
end Go.Av
