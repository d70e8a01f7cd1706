/-
  Go read by value: lemmas (part 29): N4, N5, N6.
-/
import Derived.Test.YtdeocbficanfaaaGreatDoorX21
import Derived.Test.YtdeocbficanfaaaGreatDoorX28
set_option linter.unusedVariables false
set_option linter.unusedSimpArgs false
set_option linter.unusedSectionVars false
namespace Go.Av
open Go.Proofs
variable {W0 : World}
set_option maxRecDepth 10000
set_option maxHeartbeats 4000000
def oneV : Option (Lk × List Hs) → AV → Prop
  | none, r => r = .tuple [.agg (Lk.mk [] [] [] [] []).av, .mnil, .bool false]
  | some (k, h), r => ∃ hv, HR hv h ∧ r = .tuple [.agg k.av, hv, .bool true]
theorem sf106 (hB : LibOK W0) {U : List Str} {sc : List Sc} {s : List Bd} {p : Path} {sp long : Str} {o1 : Own} {H : Hp} (hso : SOK U s) (hsr : SR sc s) (hp : p.length ≤ 67108863) (hsp : sp.length ≤ 10) (hl : longB long = true) :
    SF Tryz.prog W0 106 [scAV sc, .sl 1 (ints p) o1, .str sp, .str long] H fun r H' => H' = H ∧ oneV (one s p sp long) r := by
  have hll := longB_len hl
  obtain ⟨ls, hls⟩ : ∃ ls, pieces [] long = ls := ⟨_, rfl⟩
  have h0 : 0 < ls.length := by rw [← hls]; exact List.length_pos_iff.2 (pieces_ne _ _)
  have hln : ls.length ≤ 1000 := by rw [← hls]; exact pieces_small hl
  have hx : ∀ y ∈ ls, y.length ≤ 128 := fun y hy => piece_len hl (by rw [hls]; exact hy)
  have hx0 := hx ls[0] (List.getElem_mem _)
  have hjo : joinL ls = long := by rw [← hls, join_pieces]; rfl
  rw [one_parts hl hls h0]
  refine SF.pureLe (sf_startC 8 38 [9, 10] 39 tab_ok Tryz.func106 rfl rfl rfl (by decide) (by simp) ?_)
  obtain ⟨first, hf⟩ : ∃ f : Str, f = if ls.length = 1 then sp else [109] := ⟨_, rfl⟩
  have hfl : first.length ≤ 10 := by rw [hf]; split <;> simp [hsp]
  rw [← hf]
  repeat' first
    | (refine cutIf 3 (fun s' => Sub s' ⟨39, [(0, scAV sc), (1, .sl 1 (ints p) o1), (2, .str sp), (3, .str long), (8, .ref H.objs.length 0), (9, .mnil), (10, .bool false), (11, .sl 1 (strs ls) .shut), (12, .str first)], { H with objs := H.objs ++ [.cells [.slnil, .str [], .str [], .slnil, .slnil]] }⟩) (aSq ?_) (fun s' hs' => thenN (awp_sub hs' ?_)))
    | refine aSq ?_ | refine aSk ?_ | refine tN ?_
    | (refine rg 1 ?_; refine tk 1 ?_ (by simp (disch := omega) [small_if, small_ifI]; with_reducible rfl); refine fc en15 ?_; refine SF.then (sf15 hB (by omega)) ?_; rw [splitB_long hl, hls]; refine tk 1 ?_ (by simp (disch := omega) [small_if, small_ifI]; with_reducible rfl); refine dn ?_)
    | (refine rg 5 ?_; refine tk 7 ?_ (by simp (disch := omega) [small_if, small_ifI]; with_reducible rfl); refine fc en148 ?_; refine SF.then (sf148 hsr.ok) ?_; refine tk 1 ?_ (by simp (disch := omega) [small_if, small_ifI]; with_reducible rfl); refine dn ?_)
    | (refine ru ?_ (by simp (disch := omega) [small_if, small_ifI]; with_reducible rfl))
    | (refine awp_if rfl (fun hb => ?_) (fun hb => ?_) <;> (try simp at hb) <;> try (exfalso; omega))
    | fail
  · exact ⟨rfl, sb (by (repeat' first | exact only_nil | refine only_cons (by first | (simp; done) | exact .of_eq (by rw [hf]; split <;> first | (simp; done) | (exfalso; omega))) ?_))⟩
  · exact ⟨rfl, sb (by (repeat' first | exact only_nil | refine only_cons (by first | (simp; done) | exact .of_eq (by rw [hf]; split <;> first | (simp; done) | (exfalso; omega))) ?_))⟩
  rcases hsr.at' (first ++ (58 : UInt8) :: ls[0]) with ⟨a1, a2⟩ | ⟨c, b, a1, a2, hbr⟩
  · rcases dropWhile_find (sc := sc) (x := first ++ (58 : UInt8) :: ls[0]) with ⟨d1, d2⟩ | ⟨c', r, d1, d2⟩
    · rw [d2, a2]
      simp only [scAV, oneP, oneV]
      repeat' first
        | refine aSq ?_ | refine aRt ?_ | refine tN ?_ | refine tR ?_
        | refine ru ?_
        | (refine awp_if rfl (fun hb => ?_) (fun hb => ?_) <;> (try simp at hb) <;> try (exfalso; omega))
        | fail
      simp [retC]
      exact ⟨(Gr.refl H).obj _, .tuple (.cons (.agg (.cons (.nilShut 1) (.cons (.refl _) (.cons (.refl _) (.cons (.nilShut 1) (.cons (.nilShut 1) .nil)))))) (LeL.refl _))⟩
    · rw [a1] at d1; cases d1
  · rcases dropWhile_find (sc := sc) (x := first ++ (58 : UInt8) :: ls[0]) with ⟨d1, d2⟩ | ⟨c', r, d1, d2⟩
    · rw [a1] at d1; cases d1
    · rw [a1] at d1
      cases d1
      rw [d2, a2]
      have hbo := hso b (findL_some a2).1
      have hbs := hbo.site
      have h73 : ∀ (H : Hp), SF Tryz.prog W0 73 [scAV (c :: r), .sl 1 (ints p) o1, .str sp, .sl 1 (strs ls) .shut] H fun x H' => H' = H ∧ meantR p sp ls c b x := fun H =>
        sf73 hB hbr.site hbr.br hbr.has.data (.inr hbr.has) h0 hln (fun y hy => by have := hx y hy; omega) (by rw [hjo]; omega) hsp hp (by omega)
      simp only [scAV] at h73 ⊢
      simp only [oneP]
      unfold meantR at h73
      simp only [Lk.av] at h73
      cases hgo : goIn sp (ls.drop 1) b.ins with
      | none =>
        simp only [hgo] at h73 ⊢
        repeat' first
          | refine aSq ?_ | refine aRt ?_ | refine aSk ?_ | refine tN ?_
          | (refine rg 8 ?_; refine tk 4 ?_; refine fc en73 ?_; refine SF.then (h73 _) ?_; refine tk 6 ?_; refine dn ?_)
          | refine ru ?_
          | (refine awp_if rfl (fun hb => ?_) (fun hb => ?_) <;> (try simp at hb) <;> try (exfalso; omega))
          | fail
        simp [retC, oneV, Lk.av, strs, ints]
        exact (Gr.refl H).obj _
      | some h =>
        simp only [hgo] at h73 ⊢
        repeat' first
          | refine aSq ?_ | refine aRt ?_ | refine aSk ?_ | refine tN ?_
          | (refine rg 8 ?_; refine tk 4 ?_; refine fc en73 ?_; refine (h73 _).mono ?_; rintro x H1 ⟨rfl, hv, hvr, rfl⟩; refine tk 6 ?_; refine dn ?_)
          | refine ru ?_
          | (refine awp_if rfl (fun hb => ?_) (fun hb => ?_) <;> (try simp at hb) <;> try (exfalso; omega))
          | fail
        have hR := hvr hbr.has
        simp [retC, oneV, Lk.av, hjo]
        exact ⟨(Gr.refl H).obj _, _, .refl _, hv, hR, by simp [hR.data _ _]⟩
def WKb (H : Hp) (r : Nat) (w : Wk) : Prop := WKo H r w ∧ (w.E = 0 ∨ w.E = 8)
theorem WKb.lt {H : Hp} {r : Nat} {w : Wk} (h : WKb H r w) : r < H.objs.length := h.1.lt
theorem refer_E {w : Wk} {s : List Bd} {p : Path} {sp long : Str} (h : w.E = 0 ∨ w.E = 8) : (refer w s p sp long).1.E = 0 ∨ (refer w s p sp long).1.E = 8 := by
  unfold refer
  split
  · exact .inr rfl
  · exact h
theorem sf68 (hB : LibOK W0) {U : List Str} {sc : List Sc} {s : List Bd} {p : Path} {sp long : Str} {o2 : Own} {H : Hp} {r : Nat} {w : Wk} (hso : SOK U s) (hsr : SR sc s) (hp : p.length ≤ 67108863) (hsp : sp.length ≤ 10) (hl : longB long = true) (hw : WKb H r w) (hL : w.L.length ≤ 67108863) :
    SF Tryz.prog W0 68 [.ref r 0, scAV sc, .sl 1 (ints p) o2, .str sp, .str long] H fun x H' => HR x (refer w s p sp long).2 ∧ WKb H' r (refer w s p sp long).1 ∧ Fr (· = r) H H' := by
  have hlt := hw.lt
  have hrE := refer_E (s := s) (p := p) (sp := sp) (long := long) hw.2
  obtain ⟨⟨vL, vX, hob, aL, aX, hpt⟩, hE⟩ := hw
  have h106 : ∀ (H : Hp), SF Tryz.prog W0 106 [scAV sc, .sl 1 (ints p) o2, .str sp, .str long] H fun r H' => H' = H ∧ oneV (one s p sp long) r := fun H => sf106 hB hso hsr hp hsp hl
  obtain ⟨res, hres⟩ : ∃ res, one s p sp long = res := ⟨_, rfl⟩
  refine SF.cut (sf_start [10] 44 Tryz.func68 rfl rfl rfl (by decide) (by simp) ?_)
  unfold refer at hrE ⊢
  rw [hres] at hrE h106 ⊢
  have hob2 : ∀ x : AObj, (H.objs ++ [x])[r]? = some (.cells [vL, vX, .int .i64 w.E]) := fun x => by rw [List.getElem?_append_left hlt]; exact hob
  rcases res with _ | ⟨k, h⟩
  · simp only [oneV, Lk.av] at h106
    rcases hE with hE | hE
    all_goals
      rw [hE] at hob hob2
      repeat' first
        | refine aSq ?_ | refine aRt ?_ | refine aSk ?_ | refine tN ?_ | refine tR ?_
        | (refine rg 1 ?_; refine tk 4 ?_ (by simp (disch := omega) [hob2, List.set_append_left _ _ hlt]; with_reducible rfl); refine fc en106 ?_; refine SF.then (h106 _) ?_; refine tk 8 ?_ (by simp (disch := omega) [hob2, List.set_append_left _ _ hlt]; with_reducible rfl); refine dn ?_)
        | (refine ru ?_ (by simp (disch := omega) [hob2, List.set_append_left _ _ hlt]; with_reducible rfl))
        | (refine awp_if rfl (fun hb => ?_) (fun hb => ?_) <;> (try simp at hb) <;> try (exfalso; omega))
        | fail
    · refine ⟨H.hi.length, Nat.le_refl _, fun hold => ⟨by simp; exact .nil, ⟨wko_end ⟨vL, vX, by rw [List.getElem?_append_left (by simpa using hlt)]; simp [hlt], aL.same rfl, aX.same rfl, hpt⟩ hlt (Nat.le_refl _), hrE⟩, fr_end (by simp) (fun j hj hne => ?_) hold _⟩⟩
      simp only [List.getElem?_append_left (show j < (H.objs.set r (.cells [vL, vX, .int .i64 8])).length by simpa using hj), List.getElem?_set_ne (Ne.symm hne)]
    · refine ⟨H.hi.length, Nat.le_refl _, fun hold => ⟨by simp; exact .nil, ⟨wko_end ⟨vL, vX, hob2 _, aL.same rfl, aX.same rfl, hpt⟩ hlt (Nat.le_refl _), hrE⟩, fr_end (by simp) (fun j hj hne => List.getElem?_append_left hj) hold _⟩⟩
  · simp only [oneV, Lk.av] at h106
    repeat' first
      | refine aSq ?_ | refine aSk ?_ | refine tN ?_
      | (refine rg 1 ?_; refine tk 4 ?_; refine fc en106 ?_; refine (h106 _).mono ?_; rintro x H1 ⟨e, hv, hR, rfl⟩; replace e := e.symm; subst e; refine tk 8 ?_; refine dn ?_)
      | refine ru ?_
      | (refine awp_if rfl (fun hb => ?_) (fun hb => ?_) <;> (try simp at hb) <;> try (exfalso; omega))
      | fail
    · refine awp_drawJ (id := 6) (fun X => X.objs = H.objs ++ [.cells [.sl 1 (ints k.at') .shut, .str k.space, .str k.name, .sl 1 (ints k.site) .shut, .sl 1 (strs k.rest) .shut]]) [(0, true), (1, true), (2, true), (3, true), (4, true), (5, true), (6, false), (7, false), (8, false), (9, false), (10, false)] [10] tab_ok mixedT (by decide +kernel) rfl ?_
      iterate 4 refine adj_fix (mu := mu0) rfl (by decide +kernel) rfl rfl (fun X hX => by simp; rfl) ?_
      iterate 2 refine adj_fix (mu := mu0) rfl (by decide +kernel) rfl rfl (fun X hX => by simp [hX, hob2]; rfl) ?_
      refine adj_step (mu := mu0) tab_ok rfl (by simp; exact ⟨rfl, rfl⟩) (.inr rfl) ?_
      obtain ⟨v', H', e1, a2, g2, ho2, a3, p3⟩ := (aL.same (H' := ⟨H.objs ++ [.cells [.sl 1 (ints k.at') .shut, .str k.space, .str k.name, .sl 1 (ints k.site) .shut, .sl 1 (strs k.rest) .shut]], H.hi⟩) rfl).append2 (T := tab) (E0.gr _) (x := .sl 5 [k.av] .capped) (fs := [k.av]) (t := 24) (e := 38) tab24 tab38 rfl (by decide) (by simp) (by simp [Lk.av]) (by simp; omega) (aX.same rfl) hpt
      simp only [Lk.av] at e1
      refine adj_step (mu := mu0) (H' := H') tab_ok rfl (by simp [e1]; rfl) (.inr ho2) ?_
      refine adj_step (mu := mu0) tab_ok rfl (by simp; rfl) (.inr ho2) ?_
      refine adj_step (mu := mu0) tab_ok rfl (by simp; rfl) (.inr ho2) ?_
      refine adj_step (mu := mu0) tab_ok rfl (by simp [ho2, hob2, a2.cells, a2.okc, List.set_append_left _ _ hlt]; exact ⟨rfl, rfl⟩) (.inl rfl) ?_
      refine adj_nil ?_
      refine thenN ?_
      repeat' first
        | refine aSq ?_ | refine aRt ?_
        | refine ru ?_
        | fail
      refine ⟨max H.hi.length H'.hi.length, Nat.le_max_left _ _, fun hold => ⟨?_, ⟨wko_end ⟨v', vX, by rw [List.getElem?_append_left (by simpa using hlt)]; simp [hlt], ?_, a3.same rfl, p3⟩ hlt (Nat.le_max_right _ _), hrE⟩, fr_end (by simp) (fun j hj hne => ?_) hold _⟩⟩
      · exact (hR.data _ _).symm ▸ hR
      · rw [lks_append]; exact a2.same rfl
      · simp only [List.getElem?_append_left (show j < (H.objs.set r (.cells [v', vX, .int .i64 w.E])).length by simpa using hj), List.getElem?_set_ne (Ne.symm hne)]
end Go.Av
namespace Go.Av
open Go.Proofs
variable {W0 : World}
set_option maxRecDepth 10000
set_option maxHeartbeats 4000000
theorem cutBl {st : St} {id : Nat} {c : Code} {Q : Exit → St → Prop} (T : St → Prop) (h : AWP Tryz.prog W0 c st (inBlockA id fun e s => e = .normal ∧ T s)) (k : ∀ s, T s → Q .normal s) : AWP Tryz.prog W0 (.block id c) st Q :=
  (awp_block h).mono fun _ _ ⟨e, t⟩ => e ▸ k _ t
theorem WKb.fr {H H' : Hp} {r : Nat} {w : Wk} (h : WKb H r w) (e : w.E = 0 ∨ w.E = 8) : WKb H r w := ⟨h.1, e⟩
def WSb (W0 : World) (U : List Str) (f : FuncId) (W : Nat → List Bd → Tr → Path → Wk → Wk) (OK : Tr → Prop) (N : Nat) : Prop :=
  ∀ (t : Tr) (sc : List Sc) (s : List Bd) (p : Path) (o2 : Own) (H : Hp) (r : Nat) (w : Wk), t.cnt ≤ N → OK t → SOK U s → SR sc s → p.length + t.cnt ≤ 10000 → w.L.length + t.cnt ≤ 67108863 → WKb H r w →
    SF Tryz.prog W0 f [.ref r 0, scAV sc, t.av, .sl 1 (ints p) o2] H fun x H' => x = .tuple [] ∧ WKb H' r (W N s t p w) ∧ Fr (· = r) H H'
theorem sf62 (hB : LibOK W0) {U : List Str} (hU : U.length ≤ 60000000) : ∀ N, WSb W0 U 62 typW TyW N := by
  intro N
  induction N with
  | zero =>
    intro t sc s p o2 H r w hN ht
    have := ht.pos
    omega
  | succ N ih =>
    intro t sc s p o2 H r w hN ht hso hsr hpl hL hw
    obtain ⟨h4, ha, hl, -⟩ := ht
    rename_i k n a b l
    simp only [Tr.cnt] at hN hpl hL
    rw [typW_node]
    simp only [Tr.av]
    have hll := pos_len fun t ht => (hl t ht).pos
    obtain ⟨w1, hw1⟩ : ∃ w1, (if k = 4 then (refer w s p [116] a).1 else w) = w1 := ⟨_, rfl⟩
    obtain ⟨s1, hs1⟩ : ∃ s1, (if k = 7 ∨ k = 62 ∨ k = 72 then bindB s (116 :: 58 :: a) p [] else s) = s1 := ⟨_, rfl⟩
    have hL1 : w1.L.length ≤ w.L.length + 1 := by rw [← hw1]; split; exact (refer_L ..).1; omega
    have hso1 : SOK U s1 := by rw [← hs1]; split; exact bindB_ok hso (by simp) (by simp; omega) (by omega) .nil; exact hso
    rw [hw1, hs1]
    obtain ⟨fin, hfin⟩ : ∃ fin, foldK (fun i t w => typW N s1 t (down p i) w) 0 l w1 = fin := ⟨_, rfl⟩
    rw [hfin]
    refine sf_start [] 54 Tryz.func62 rfl rfl rfl (by decide) (by simp) ?_
    repeat' first
      | (refine cutBl (id := 0) (fun s' => ∃ H1 sc1, Sub s' ⟨54, [(0, .ref r 0), (1, scAV sc1), (2, .ptr [.int .i64 k, .int .i64 n, .str a, .str b, .sl 1 (Tr.avs l) .shut]), (3, .sl 1 (ints p) o2)], H1⟩ ∧ SR sc1 s1 ∧ WKb H1 r w1 ∧ Fr (· = r) H H1) ?_ (fun s' ⟨H1, sc1, hs', hsr1, hwa, hfa⟩ => thenN (awp_sub hs' ?_)))
      | refine aSq ?_ | refine aSk ?_ | refine aBl ?_ | refine tN ?_
      | (refine rg 2 ?_; refine tk 7 ?_ (by simp (disch := omega) [small_if]; with_reducible rfl); refine fc en68 ?_; refine (sf68 hB hso hsr (by omega) (by simp) (h4 (by assumption)) hw (by omega)).mono ?_; rintro x1 H1 ⟨hR, hwb, hfb⟩; refine dn ?_)
      | (refine rg 6 ?_; refine tk 7 ?_ (by simp (disch := omega) [small_if]; with_reducible rfl); refine fc en61 ?_; refine SF.then (sf61 hsr.ok .nil) ?_; refine tk 1 ?_ (by simp (disch := omega) [small_if]; with_reducible rfl); refine dn ?_)
      | (refine ru ?_ (by simp (disch := omega) [small_if]; with_reducible rfl))
      | (refine awp_if rfl (fun hb => ?_) (fun hb => ?_) <;> (try simp at hb) <;> try (exfalso; omega))
      | refine inN ?_
    · exact ⟨rfl, H1, sc, sb, by rw [← hs1, if_neg (by omega)]; exact hsr, by rw [← hw1, if_pos hb]; exact hwb, hfb⟩
    iterate 3
      · exact ⟨rfl, H, ⟨116 :: 58 :: a, p, false, .mnil⟩ :: sc, sb, by rw [← hs1, if_pos (by simp [*])]; exact hsr.bind _ _ .nil, by rw [← hw1, if_neg (by assumption)]; exact hw, Fr.refl _⟩
    · exact ⟨rfl, H, sc, sb, by rw [← hs1, if_neg (by simp [*])]; exact hsr, by rw [← hw1, if_neg (by assumption)]; exact hw, Fr.refl _⟩
    clear hs' hs1 hw1 hw
    refine awp_loop_inv (fun q st => ∃ (i : Nat) (cur : Wk) (Hc : Hp), q = l.length - i ∧ i ≤ l.length ∧ foldK (fun i t w => typW N s1 t (down p i) w) i (l.drop i) cur = fin ∧ cur.L.length ≤ w.L.length + 1 + Tr.cnts (l.take i) ∧ WKb Hc r cur ∧ Fr (· = r) H Hc ∧
      Sub st ⟨54, [(0, .ref r 0), (1, scAV sc1), (3, .sl 1 (ints p) o2), (39, .sl 1 (Tr.avs l) .shut), (40, .int .i64 l.length), (41, .int .i64 i)], Hc⟩) l.length
      ⟨0, w1, H1, by simp, by simp, hfin, by simp [Tr.cnts]; omega, hwa, hfa, sb⟩ ?_
    clear hfin hwa hfa
    rintro q st ⟨i, cur, Hc, rfl, hi, hfo, hcl, hwc, hfc, hs2⟩
    refine awp_sub hs2 ?_
    clear hs2 st
    repeat' first
      | refine aSq ?_ | refine aSk ?_ | refine aEx ?_ | refine aBl ?_ | refine tN ?_ | refine tE ?_
      | (refine rg 10 ?_; refine tk 5 ?_; refine fc en63 ?_; refine SF.then (sf63 (by omega)) ?_; refine fc en62 ?_; (have hlt : i < l.length := by assumption); (have q1 := Tr.cnts_take l i hlt); (have q2 := Tr.cnts_take_le l (i + 1)); (have q3 := Tr.cnts_le l i hlt); (have q4 := typW_len N s1 l[i] (down p i) cur); refine (ih l[i] sc1 s1 (down p i) .shut Hc r cur (by omega) (hl _ (List.getElem_mem hlt)) hso1 hsr1 (by rw [down_len]; omega) (by omega) hwc).mono ?_; rintro x1 H2 ⟨rfl, hwb, hfb⟩; refine dn ?_)
      | refine ru ?_
      | (refine awp_if rfl (fun hb => ?_) (fun hb => ?_) <;> (try simp at hb) <;> try (exfalso; omega))
      | fail
    · have hlt : i < l.length := by assumption
      rw [foldK_drop _ hlt] at hfo
      exact ⟨l.length - (i + 1), by omega, i + 1, _, H2, rfl, by omega, hfo, by have := q4.1; omega, hwb, hfc.trans hfb, sb⟩
    · rw [foldK_end _ (by omega)] at hfo
      subst hfo
      exact ⟨rfl, hwc, hfc⟩
def exprG (N : Nat) (s : List Bd) (k : Int) (a b : Str) (p : Path) (i : Nat) (t : Tr) (w : Wk) : Wk :=
  if (k = 24 ∧ i = 0) ∨ (k = 33 ∧ i = 1) then typW N s t (down p i) w
  else exprW N (if k = 24 ∨ (k = 29 ∧ i = 1) then bindB s (118 :: 58 :: a) p [] else if k = 34 then bindB s (118 :: 58 :: b) p [] else s) t (down p i) w
theorem exprG_len (N : Nat) (s : List Bd) (k : Int) (a b : Str) (p : Path) (i : Nat) (t : Tr) (w : Wk) : LenOK w (exprG N s k a b p i t w) t.cnt := by
  unfold exprG; split
  · exact typW_len ..
  · exact exprW_len ..
theorem sf64 (hB : LibOK W0) {U : List Str} (hU : U.length ≤ 60000000) : ∀ N, WSb W0 U 64 exprW ExW N := by
  intro N
  induction N with
  | zero =>
    intro t sc s p o2 H r w hN ht
    have := ht.pos
    omega
  | succ N ih =>
    intro t sc s p o2 H r w hN ht hso hsr hpl hL hw
    have key : ∀ (k n : Int) (a b : Str) (l : List Tr), k ≠ 23 → (k = 24 ∨ k = 29 → a.length ≤ 128) → (k = 34 → b.length ≤ 128) → (∀ t ∈ l, 1 ≤ t.cnt) → (∀ i (h : i < l.length), if (k = 24 ∧ i = 0) ∨ (k = 33 ∧ i = 1) then TyW l[i] else ExW l[i]) → t = .node k n a b l →
        SF Tryz.prog W0 64 [.ref r 0, scAV sc, t.av, .sl 1 (ints p) o2] H fun x H' => x = .tuple [] ∧ WKb H' r (exprW (N + 1) s t p w) ∧ Fr (· = r) H H' := by
      rintro k n a b l h1 h2 h3 hpos hk rfl
      have hll := pos_len hpos
      simp only [Tr.cnt] at hN hpl hL
      have he : exprW (N + 1) s (.node k n a b l) p w = foldK (exprG N s k a b p) 0 l w := by rw [exprW_node, if_neg h1]; rfl
      rw [he]
      obtain ⟨fin, hfin⟩ : ∃ fin, foldK (exprG N s k a b p) 0 l w = fin := ⟨_, rfl⟩
      rw [hfin]
      simp only [Tr.av]
      refine sf_start [] 106 Tryz.func64 rfl rfl rfl (by decide) (by simp) ?_
      repeat' first
        | refine aSq ?_ | refine aSk ?_ | refine aBl ?_ | refine tN ?_
        | refine ru ?_
        | (refine awp_if rfl (fun hb => ?_) (fun hb => ?_) <;> (try simp at hb) <;> try (exfalso; omega))
        | fail
      refine awp_loop_inv (fun q st => ∃ (i : Nat) (cur : Wk) (Hc : Hp), q = l.length - i ∧ i ≤ l.length ∧ foldK (exprG N s k a b p) i (l.drop i) cur = fin ∧ cur.L.length ≤ w.L.length + Tr.cnts (l.take i) ∧ WKb Hc r cur ∧ Fr (· = r) H Hc ∧
        Sub st ⟨106, [(0, .ref r 0), (1, scAV sc), (2, .ptr [.int .i64 k, .int .i64 n, .str a, .str b, .sl 1 (Tr.avs l) .shut]), (3, .sl 1 (ints p) o2), (27, .sl 1 (Tr.avs l) .shut), (28, .int .i64 l.length), (29, .int .i64 i)], Hc⟩) l.length
        ⟨0, w, H, by simp, by simp, hfin, by simp [Tr.cnts], hw, Fr.refl H, sb⟩ ?_
      clear hfin hw
      rintro q st ⟨i, cur, Hc, rfl, hi, hfo, hcl, hwc, hfc, hs2⟩
      refine awp_sub hs2 ?_
      clear hs2 st
      repeat' first
        | refine aSq ?_ | refine aSk ?_ | refine aEx ?_ | refine aBl ?_ | refine tN ?_ | refine tE ?_
        | (refine rg 6 ?_; refine tk 5 ?_ (by simp (disch := omega) [small_if]; with_reducible rfl); (first | (refine te (hs := (by simp (disch := omega) [small_if]; with_reducible rfl)) (fun hb => ?_) (fun hb => ?_) <;> (try simp at hb) <;> try (exfalso; omega)) | (refine tk 1 ?_ (by simp (disch := omega) [small_if]; with_reducible rfl))); all_goals (refine tk 4 ?_ (by simp (disch := omega) [small_if]; with_reducible rfl); refine dn ?_))
        | (refine rg 7 ?_; refine tk 5 ?_ (by simp (disch := omega) [small_if]; with_reducible rfl); (first | (refine te (hs := (by simp (disch := omega) [small_if]; with_reducible rfl)) (fun hb => ?_) (fun hb => ?_) <;> (try simp at hb) <;> try (exfalso; omega)) | (refine tk 1 ?_ (by simp (disch := omega) [small_if]; with_reducible rfl))); all_goals (refine tk 4 ?_ (by simp (disch := omega) [small_if]; with_reducible rfl); refine dn ?_))
        | (refine rg 8 ?_; refine tk 5 ?_ (by simp (disch := omega) [small_if]; with_reducible rfl); refine fc en63 ?_; refine SF.then (sf63 (by omega)) ?_; refine fc en62 ?_; (have hlt : i < l.length := by assumption); (have q1 := Tr.cnts_take l i hlt); (have q2 := Tr.cnts_take_le l (i + 1)); (have q3 := Tr.cnts_le l i hlt); (have q4 := exprG_len N s k a b p i l[i] cur); (have hty := hk i hlt); (have hc : (k = 24 ∧ i = 0) ∨ (k = 33 ∧ i = 1) := by omega); rw [if_pos hc] at hty; refine (sf62 hB hU N l[i] sc s (down p i) .shut Hc r cur (by omega) hty hso hsr (by rw [down_len]; omega) (by omega) hwc).mono ?_; rintro x1 H2 ⟨rfl, hwb, hfb⟩; rw [show typW N s l[i] (down p i) cur = exprG N s k a b p i l[i] cur from by rw [exprG, if_pos hc]] at hwb; refine dn ?_)
        | (refine rg 10 ?_; refine tk 5 ?_ (by simp (disch := omega) [small_if]; with_reducible rfl); (first | (refine te (hs := (by simp (disch := omega) [small_if]; with_reducible rfl)) (fun hb => ?_) (fun hb => ?_) <;> (try simp at hb) <;> try (exfalso; omega)) | (refine tk 1 ?_ (by simp (disch := omega) [small_if]; with_reducible rfl))); all_goals (refine tk 4 ?_ (by simp (disch := omega) [small_if]; with_reducible rfl); refine dn ?_))
        | (refine rg 11 ?_; (have ha := h2 (by omega)); refine tk 6 ?_ (h := by simp (disch := omega) [small_if]; with_reducible rfl); refine tk 1 ?_; refine fc en61 ?_; refine SF.then (sf61 hsr.ok .nil) ?_; refine tk 1 ?_; refine dn ?_)
        | (refine rg 13 ?_; (have ha := h3 (by omega)); refine tk 6 ?_ (h := by simp (disch := omega) [small_if]; with_reducible rfl); refine tk 1 ?_; refine fc en61 ?_; refine SF.then (sf61 hsr.ok .nil) ?_; refine tk 1 ?_; refine dn ?_)
        | (refine rg 14 ?_; refine tk 5 ?_ (by simp (disch := omega) [small_if]; with_reducible rfl); refine fc en63 ?_; refine SF.then (sf63 (by omega)) ?_; refine fc en64 ?_; (have hlt : i < l.length := by assumption); (have q1 := Tr.cnts_take l i hlt); (have q2 := Tr.cnts_take_le l (i + 1)); (have q3 := Tr.cnts_le l i hlt); (have q4 := exprG_len N s k a b p i l[i] cur); (have hty := hk i hlt); (have hc : ¬ ((k = 24 ∧ i = 0) ∨ (k = 33 ∧ i = 1)) := by omega); rw [if_neg hc] at hty; (first | (have hd : ¬ (k = 24 ∨ (k = 29 ∧ i = 1)) ∧ ¬ k = 34 := by omega); refine (ih l[i] sc s (down p i) .shut Hc r cur (by omega) hty hso hsr (by rw [down_len]; omega) (by omega) hwc).mono ?_; rintro x1 H2 ⟨rfl, hwb, hfb⟩; rw [show exprW N s l[i] (down p i) cur = exprG N s k a b p i l[i] cur from by rw [exprG, if_neg hc, if_neg hd.1, if_neg hd.2]] at hwb | (have hd : k = 24 ∨ (k = 29 ∧ i = 1) := by omega); refine (ih l[i] (⟨118 :: 58 :: a, p, false, .mnil⟩ :: sc) (bindB s (118 :: 58 :: a) p []) (down p i) .shut Hc r cur (by omega) hty (bindB_ok hso (by simp) (by have := h2 (by omega); simp; omega) (by omega) .nil) (hsr.bind _ _ .nil) (by rw [down_len]; omega) (by omega) hwc).mono ?_; rintro x1 H2 ⟨rfl, hwb, hfb⟩; rw [show exprW N (bindB s (118 :: 58 :: a) p []) l[i] (down p i) cur = exprG N s k a b p i l[i] cur from by rw [exprG, if_neg hc, if_pos hd]] at hwb | (have hd : ¬ (k = 24 ∨ (k = 29 ∧ i = 1)) ∧ k = 34 := by omega); refine (ih l[i] (⟨118 :: 58 :: b, p, false, .mnil⟩ :: sc) (bindB s (118 :: 58 :: b) p []) (down p i) .shut Hc r cur (by omega) hty (bindB_ok hso (by simp) (by have := h3 (by omega); simp; omega) (by omega) .nil) (hsr.bind _ _ .nil) (by rw [down_len]; omega) (by omega) hwc).mono ?_; rintro x1 H2 ⟨rfl, hwb, hfb⟩; rw [show exprW N (bindB s (118 :: 58 :: b) p []) l[i] (down p i) cur = exprG N s k a b p i l[i] cur from by rw [exprG, if_neg hc, if_neg hd.1, if_pos hd.2]] at hwb); refine dn ?_)
        | (refine ru ?_ (by simp (disch := omega) [small_if]; with_reducible rfl))
        | (refine awp_if rfl (fun hb => ?_) (fun hb => ?_) <;> (try simp at hb) <;> try (exfalso; omega))
        | fail
      all_goals first
        | (rw [foldK_drop _ hlt] at hfo
           exact ⟨l.length - (i + 1), by omega, i + 1, _, H2, rfl, by omega, hfo, by have := q4.1; omega, hwb, hfc.trans hfb, sb⟩)
        | (rw [foldK_end _ (by omega)] at hfo
           subst hfo
           exact ⟨rfl, hwc, hfc⟩)
        | skip
    cases ht with
    | other h1 h2 h3 h4 h5 hl => exact key _ _ _ _ _ h1 (by omega) (by omega) (fun t ht => (hl t ht).pos) (fun i h => by rw [if_neg (by omega)]; exact hl _ (List.getElem_mem h)) rfl
    | @fold n a b e t l g1 g2 g3 =>
      have hp : ∀ x ∈ e :: t :: l, 1 ≤ x.cnt := by
        intro x hx
        rcases List.mem_cons.1 hx with rfl | hx
        · exact g1.pos
        · rcases List.mem_cons.1 hx with rfl | hx
          · exact g2.pos
          · exact (g3 x hx).pos
      have hq : ∀ i (h : i < (e :: t :: l).length), if ((33 : Int) = 24 ∧ i = 0) ∨ ((33 : Int) = 33 ∧ i = 1) then TyW (e :: t :: l)[i] else ExW (e :: t :: l)[i] := by
        intro i h
        rcases i with _ | _ | i
        · simpa using g1
        · simpa using g2
        · rw [if_neg (by omega)]; simpa using g3 _ (List.getElem_mem _)
      exact key 33 n a b _ (by decide) (fun h => by omega) (fun h => by omega) hp hq rfl
    | @var n a b h =>
      rw [exprW_var]
      simp only [Tr.av, Tr.cnt, Tr.cnts] at *
      refine sf_start [] 106 Tryz.func64 rfl rfl rfl (by decide) (by simp) ?_
      repeat' first
        | refine aSq ?_ | refine aBl ?_ | refine tN ?_
        | (refine rg 1 ?_; refine tk 7 ?_ (by simp (disch := omega) [Tr.avs]; with_reducible rfl); refine fc en68 ?_; refine (sf68 hB hso hsr (by omega) (by simp) h hw (by omega)).mono ?_; rintro x1 H1 ⟨hR, hwb, hfb⟩; refine dn ?_)
        | (refine ru ?_ (by simp (disch := omega) [Tr.avs]; with_reducible rfl))
        | (refine awp_if rfl (fun hb => ?_) (fun hb => ?_) <;> (try simp at hb) <;> try (exfalso; omega))
        | fail
      refine awp_loop_inv (fun q st => Sub st ⟨106, [(28, .int .i64 0), (29, .int .i64 0)], H1⟩) 0 sb ?_
      rintro q st hs2
      refine awp_sub hs2 ?_
      clear hs2 st
      repeat' first
        | refine aSq ?_ | refine aEx ?_ | refine tE ?_
        | refine ru ?_
        | (refine awp_if rfl (fun hb => ?_) (fun hb => ?_) <;> (try simp at hb) <;> try (exfalso; omega))
        | fail
      exact ⟨rfl, hwb, hfb⟩
    | @lam n a b t e ha g1 g2 =>
      refine key 24 n a b [t, e] (by decide) (fun _ => ha) (fun h => by omega) (fun x hx => ?_) (fun i h => ?_) rfl
      · simp only [List.mem_cons, List.not_mem_nil, or_false] at hx; rcases hx with rfl | rfl; exact g1.pos; exact g2.pos
      · rcases i with _ | _ | i
        · simpa using g1
        · simpa using g2
        · simp at h; omega
    | @bnd n a b t e ha g1 g2 =>
      refine key 29 n a b [t, e] (by decide) (fun _ => ha) (fun h => by omega) (fun x hx => ?_) (fun i h => ?_) rfl
      · simp only [List.mem_cons, List.not_mem_nil, or_false] at hx; rcases hx with rfl | rfl; exact g1.pos; exact g2.pos
      · rcases i with _ | _ | i
        · simpa using g1
        · simpa using g2
        · simp at h; omega
    | @arm n a b e hb' g2 =>
      refine key 34 n a b [e] (by decide) (fun h => by omega) (fun _ => hb') (fun x hx => ?_) (fun i h => ?_) rfl
      · simp only [List.mem_cons, List.not_mem_nil, or_false] at hx; subst hx; exact g2.pos
      · rcases i with _ | i
        · simpa using g2
        · simp at h
end Go.Av
namespace Go.Av
open Go.Proofs
variable {W0 : World}
set_option maxRecDepth 10000
set_option maxHeartbeats 4000000
def StB (H : Hp) (rs ro : Nat) (x : Stt) : Prop := (∃ sc, H.objs[rs]? = some (.cells [scAV sc]) ∧ SR sc x.S) ∧ GvO H ro x.Out
def PutB (W0 : World) (f : FuncId) : Prop := ∀ (x : Stt) (lab : Str) (p : Path) (o : Own) (v : AV) (ins : List Hs) (H : Hp) (rs ro : Nat), StB H rs ro x → HR v ins → rs ≠ ro →
  SF Tryz.prog W0 f [.str lab, v, .ref rs 0, .ptr [.sl 1 (ints p) o], .ptr [.mref ro]] H fun y H' => y = .tuple [] ∧ StB H' rs ro (x.put lab p ins) ∧ Fr (fun j => j = rs ∨ j = ro) H H' ∧ H'.hi = H.hi
theorem put_b {H : Hp} {rs ro : Nat} {x : Stt} {sc : List Sc} {ks : List Str} {vs : List AV} {lab : Str} {p : Path} {v : AV} {ins : List Hs} (h1 : H.objs[rs]? = some (.cells [scAV sc])) (h2 : SR sc x.S) (h3 : H.objs[ro]? = some (.map ks vs)) (h4 : GvR ks vs x.Out) (hv : HR v ins) (hne : rs ≠ ro) :
    StB ⟨(H.objs.set rs (.cells [scAV (⟨lab, p, false, v⟩ :: sc)])).set ro (.map (setA ks vs lab (scAV (⟨lab, p, false, v⟩ :: sc))).1 (setA ks vs lab (scAV (⟨lab, p, false, v⟩ :: sc))).2), H.hi⟩ rs ro (x.put lab p ins) := by
  have hb := h2.bind lab p hv
  refine ⟨⟨⟨lab, p, false, v⟩ :: sc, ?_, hb⟩, (setA ks vs lab (scAV (⟨lab, p, false, v⟩ :: sc))).1, (setA ks vs lab (scAV (⟨lab, p, false, v⟩ :: sc))).2, ?_, ?_⟩
  · simp only; rw [List.getElem?_set_ne (Ne.symm hne), List.getElem?_set_self (obj_lt h1)]
  · simp only; rw [List.getElem?_set_self (by simpa using obj_lt h3)]
  · exact h4.put (k := .mk lab ins lab p false ins) (scAV_data hb.ok) rfl hv
theorem put150 : PutB W0 150 := by
  rintro x lab p o v ins H rs ro ⟨⟨sc, h1, h2⟩, ks, vs, h3, h4⟩ hv hne
  refine sf_start [] 15 Tryz.func150 rfl rfl rfl (by decide) (by simp) ?_
  have h5 : ∀ o : AObj, (H.objs.set rs o)[rs]? = some o := fun o => List.getElem?_set_self (obj_lt h1)
  have h6 : ∀ o : AObj, (H.objs.set rs o)[ro]? = some (.map ks vs) := fun o => by rw [List.getElem?_set_ne hne]; exact h3
  repeat' first
    | refine aSq ?_ | refine tN ?_
    | (refine rg 0 ?_; refine tk 4 ?_ (by simp (disch := omega) [h1]; with_reducible rfl); refine fc en61 ?_; refine SF.then (sf61 h2.ok hv) ?_; refine tk 1 ?_ (by simp (disch := omega) [h1]; with_reducible rfl); refine dn ?_)
    | (refine rg 1 ?_; refine aops_take 4 (mu := mu0) tab_ok (by simp [-putA, h5, put82 (H := ⟨H.objs.set rs (.cells [scAV (⟨lab, p, false, v⟩ :: sc)]), H.hi⟩) (h6 _)]; with_reducible rfl) ?_; refine dn ?_)
    | fail
  refine ⟨rfl, put_b h1 h2 h3 h4 hv hne, ⟨by simp, fun j hj => ?_⟩, rfl⟩
  have hj1 : ¬ j = rs := fun e => hj (.inl e)
  have hj2 : ¬ j = ro := fun e => hj (.inr e)
  simp only
  rw [List.getElem?_set_ne (Ne.symm hj2), List.getElem?_set_ne (Ne.symm hj1)]
theorem put60 : PutB W0 60 := by
  rintro x lab p o v ins H rs ro ⟨⟨sc, h1, h2⟩, ks, vs, h3, h4⟩ hv hne
  refine sf_start [] 15 Tryz.func60 rfl rfl rfl (by decide) (by simp) ?_
  have h5 : ∀ o : AObj, (H.objs.set rs o)[rs]? = some o := fun o => List.getElem?_set_self (obj_lt h1)
  have h6 : ∀ o : AObj, (H.objs.set rs o)[ro]? = some (.map ks vs) := fun o => by rw [List.getElem?_set_ne hne]; exact h3
  repeat' first
    | refine aSq ?_ | refine tN ?_
    | (refine rg 0 ?_; refine tk 4 ?_ (by simp (disch := omega) [h1]; with_reducible rfl); refine fc en61 ?_; refine SF.then (sf61 h2.ok hv) ?_; refine tk 1 ?_ (by simp (disch := omega) [h1]; with_reducible rfl); refine dn ?_)
    | (refine rg 1 ?_; refine aops_take 4 (mu := mu0) tab_ok (by simp [-putA, h5, put82 (H := ⟨H.objs.set rs (.cells [scAV (⟨lab, p, false, v⟩ :: sc)]), H.hi⟩) (h6 _)]; with_reducible rfl) ?_; refine dn ?_)
    | fail
  refine ⟨rfl, put_b h1 h2 h3 h4 hv hne, ⟨by simp, fun j hj => ?_⟩, rfl⟩
  have hj1 : ¬ j = rs := fun e => hj (.inl e)
  have hj2 : ¬ j = ro := fun e => hj (.inr e)
  simp only
  rw [List.getElem?_set_ne (Ne.symm hj2), List.getElem?_set_ne (Ne.symm hj1)]
theorem StB.fr {H H' : Hp} {rs ro : Nat} {x : Stt} {P : Nat → Prop} (h : StB H rs ro x) (hf : Fr P H H') (h1 : ¬ P rs) (h2 : ¬ P ro) : StB H' rs ro x := by
  obtain ⟨⟨sc, a, b⟩, ks, vs, c, d⟩ := h
  exact ⟨⟨sc, (hf.2 _ h1).trans a, b⟩, ks, vs, (hf.2 _ h2).trans c, d⟩
theorem WKb.keep {H H' : Hp} {r : Nat} {w : Wk} {P : Nat → Prop} (h : WKb H r w) (hf : Fr P H H') (hp : ¬ P r) (hh : H'.hi = H.hi) : WKb H' r w := ⟨h.1.keep (hf.2 r hp) hh, h.2⟩
theorem sf65 (hB : LibOK W0) {f : FuncId} (hen : enters Tryz.prog f) (hfp : PutB W0 f) {U : List Str} (hU : U.length ≤ 60000000) {N : Nat} {k n : Int} {a b : Str} {l : List Tr} {x : Stt} {sc : List Sc} {p : Path} {o2 o3 : Own} {H : Hp} {r rs ro : Nat} {w : Wk} (hN : (Tr.node k n a b l).cnt ≤ N) (ht : TyW (.node k n a b l)) (h8 : ∀ t ∈ l, t.kind = 8) (hso : SOK U x.S) (hsr : SR sc x.S)
    (hpl : p.length + (Tr.node k n a b l).cnt ≤ 10000) (hL : w.L.length + (Tr.node k n a b l).cnt ≤ 67108862) (hw : WKb H r w) (hx : StB H rs ro x) (hne : rs ≠ ro) (hr1 : rs ≠ r) (hr2 : ro ≠ r) :
    SF Tryz.prog W0 65 [.ref r 0, scAV sc, (Tr.node k n a b l).av, .sl 1 (ints p) o2, .fn f [.ref rs 0, .ptr [.sl 1 (ints p) o3], .ptr [.mref ro]]] H fun y H' => y = .tuple [] ∧ WKb H' r (dataW N x (.node k n a b l) p w).1 ∧ StB H' rs ro (dataW N x (.node k n a b l) p w).2 ∧ Fr (fun j => j = r ∨ j = rs ∨ j = ro) H H' := by
  have h62 := sf62 (W0 := W0) hB hU N (.node k n a b l) sc x.S p o2 H r w hN ht hso hsr (by omega) (by omega) hw
  have ha := ht.len
  simp only [Tr.name] at ha
  have hcl := kinds8_len h8
  simp only [dataW, Tr.kids, Tr.name]
  simp only [Tr.av] at h62 ⊢
  simp only [Tr.cnt] at hN hpl hL
  refine sf_start [] 41 Tryz.func65 rfl rfl rfl (by decide) (by simp) ?_
  repeat' first
    | refine aSq ?_ | refine aBl ?_
    | (refine rg 0 ?_; refine tk 4 ?_ (by simp (disch := omega) [small_if]; with_reducible rfl); refine fc en62 ?_; refine h62.mono ?_; rintro x1 H1 ⟨rfl, hwb, hfb⟩; have hx1 : StB H1 rs ro x := hx.fr hfb hr1 hr2; refine dn ?_)
    | (refine rg 1 ?_; refine tk 6 ?_ (by simp (disch := omega) [small_if]; with_reducible rfl); refine aops_val rfl rfl rfl rfl rfl (by assumption) (by simp; rfl) ?_; refine (hfp x (116 :: 58 :: a) p o3 .mnil [] H1 rs ro hx1 .nil hne).mono ?_; rintro x1 H2 ⟨rfl, hxc, hfc, hic⟩; refine dn ?_)
    | (refine ru ?_ (by simp (disch := omega) [small_if]; with_reducible rfl))
    | fail
  obtain ⟨fin, hfin⟩ : ∃ fin, putKids p l (x.put (116 :: 58 :: a) p []) = fin := ⟨_, rfl⟩
  rw [hfin]
  have hkl : ∀ t ∈ l, TyW t := by cases ht; assumption
  have hnr : ∀ {H H' : Hp}, Fr (fun j => j = rs ∨ j = ro) H H' → Fr (fun j => j = r ∨ j = rs ∨ j = ro) H H' := fun h => h.mono fun j q => .inr q
  have hno : ¬ (r = rs ∨ r = ro) := fun q => q.elim (fun e => hr1 e.symm) (fun e => hr2 e.symm)
  refine awp_loop_inv (fun q st => ∃ (i : Nat) (cur : Stt) (Hc : Hp), q = l.length - i ∧ i ≤ l.length ∧ putKids p (l.drop i) cur = fin ∧ WKb Hc r (typW N x.S (.node k n a b l) p w) ∧ StB Hc rs ro cur ∧ Fr (fun j => j = r ∨ j = rs ∨ j = ro) H Hc ∧
    Sub st ⟨41, [(4, .fn f [.ref rs 0, .ptr [.sl 1 (ints p) o3], .ptr [.mref ro]]), (27, .sl 1 (Tr.avs l) .shut), (28, .int .i64 l.length), (29, .int .i64 i)], Hc⟩) l.length
    ⟨0, x.put (116 :: 58 :: a) p [], H2, by simp, by simp, hfin, hwb.keep hfc hno hic, hxc, (hfb.mono fun j h => .inl h).trans (hnr hfc), sb⟩ ?_
  clear hfin hwb hfb hx1 hx hw h62 hxc hfc hic
  rintro q st ⟨i, cur, Hc, rfl, hi, hpk, hwc, hxc, hfc, hs2⟩
  refine awp_sub hs2 ?_
  clear hs2 st
  repeat' first
    | refine aSq ?_ | refine aSk ?_ | refine aEx ?_ | refine aBl ?_ | refine tN ?_ | refine tE ?_
    | (refine rg 5 ?_; (have hlt : i < l.length := by assumption); obtain ⟨n', a', b', ks, e⟩ := kid8 h8 hlt; (have hna : a'.length ≤ 128 := by have := (hkl _ (List.getElem_mem hlt)).len; rw [e] at this; exact this); (have eav : l[i].av = .ptr [.int .i64 8, .int .i64 n', .str a', .str b', .sl 1 (Tr.avs ks) .shut] := by rw [e]; simp only [Tr.av]); refine tk 6 ?_ (by simp (disch := omega) [eav, small_if]; with_reducible rfl); refine aops_val rfl rfl rfl rfl rfl hen (by simp; rfl) ?_; refine (hfp cur (118 :: 58 :: a') p o3 .mnil [] Hc rs ro hxc .nil hne).mono ?_; rintro x1 H3 ⟨rfl, hxd, hfd, hid⟩; refine dn ?_)
    | (refine ru ?_ (by simp (disch := omega) [small_if]; with_reducible rfl))
    | (refine awp_if rfl (fun hb => ?_) (fun hb => ?_) <;> (try simp at hb) <;> try (exfalso; omega))
    | fail
  · rw [putKids_drop hlt, e] at hpk
    exact ⟨l.length - (i + 1), by omega, i + 1, _, _, rfl, by omega, hpk, hwc.keep hfd hno hid, hxd, hfc.trans (hnr hfd), sb⟩
  · rw [List.drop_of_length_le (by omega)] at hpk
    simp only [putKids] at hpk
    subst hpk
    exact ⟨rfl, hwc, hxc, hfc⟩
end Go.Av
