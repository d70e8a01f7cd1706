/-
  Go read by value: lemmas (part 25): F9, M4, A25, D30, D31, D32.
-/
import Derived.Test.YtdeocbficanfaaaGreatDoorZ13
import Derived.Test.YtdeocbficanfaaaGreatDoorZ17
import Derived.Test.YtdeocbficanfaaaGreatDoorZ18
import Derived.Test.YtdeocbficanfaaaGreatDoorZ20
import Derived.Test.YtdeocbficanfaaaGreatDoorZ24
set_option linter.unusedVariables false
set_option linter.unusedSimpArgs false
set_option linter.unusedSectionVars false
namespace Go.Av
open Go.Proofs
variable {W0 : World}
set_option maxRecDepth 10000
set_option maxHeartbeats 4000000
theorem App.leC {H0 H : Hp} {sz : Nat} {es : List (List AV)} {v : AV} (h : App H0 H sz es v) (n m : Nat) : Le (Av.cln n m v) (.sl sz (clnLL n m es) .shut) := by
  rcases h.is with ⟨rfl, rfl⟩ | rfl | ⟨q, h1, rfl, h3⟩
  · exact .nil _ _ trivial
  · exact .sl (LeLL.refl _) (.inr rfl)
  · exact .sl (LeLL.refl _) (.inr rfl)
def wkR (w : Wk) : AV := .ptr [.sl 5 (lks w.L) .shut, .sl 5 (lks w.X) .shut, .int .i64 w.E]
def progR (t : Tr) : AV := if checkE t 7 = 0 then .tuple [wkR (progW t.cnt t), .int .i64 (progW t.cnt t).E] else .tuple [.nilp, .int .i64 (checkE t 7)]
theorem checkE_ok {t : Tr} (h : checkE t 7 = 0) : isB t 7 = true := by
  unfold checkE at h
  repeat' split at h
  all_goals first | (simp at h; done) | simp_all
theorem seenL_drop {s : List Bd} {i : Nat} (h : i < s.length) (l : List Hs) : seenL (s.drop i) l = seenL (s.drop (i + 1)) (put l (seenH s[i])) := by
  rw [List.drop_eq_getElem_cons h]; rfl
theorem put_nodup {l : List Hs} (k : Hs) (h : (l.map Hs.label).Nodup) : ((put l k).map Hs.label).Nodup := by
  unfold put
  rw [List.map_append, List.nodup_append]
  refine ⟨?_, by simp, ?_⟩
  · rw [List.nodup_iff_pairwise_ne, List.pairwise_map] at h ⊢
    exact h.filter _
  · intro a ha b hb
    simp only [List.map_cons, List.map_nil, List.mem_singleton] at hb
    subst hb
    obtain ⟨x, hx, rfl⟩ := List.mem_map.1 ha
    have := (List.mem_filter.1 hx).2
    simpa using this
theorem put_two {l : List Hs} {k : Hs} (h : ∀ x ∈ l, 2 ≤ x.label.length) (hk : 2 ≤ k.label.length) : ∀ x ∈ put l k, 2 ≤ x.label.length := fun x hx => by
  rcases List.mem_append.1 hx with q | q
  · exact h x (List.mem_filter.1 q).1
  · rw [List.mem_singleton.1 q]; exact hk
theorem sf21 {t : Tr} {H : Hp} (hc : t.cnt ≤ 4000) (hn : t.neat) : SF Tryz.prog W0 21 [t.av] H fun x H' => H'.objs = H.objs ∧ x = progR t := by
  have hck : SF Tryz.prog W0 38 [t.av, .int .i64 7] H fun r H' => H' = H ∧ r = .int .i64 (checkE t 7) := sf38 (by omega) hn
  by_cases h0 : checkE t 7 = 0
  · obtain ⟨n, a, b, l, rfl, hl⟩ := pr_ok (checkE_ok h0)
    rw [h0] at hck
    obtain ⟨N, hN⟩ : ∃ N, (Tr.node 80 n a b l).cnt = N := ⟨_, rfl⟩
    have hll := pos_len fun t ht => (hl t ht).pos
    obtain ⟨U, hUd⟩ : ∃ U, Tr.labss l = U := ⟨_, rfl⟩
    have hul : InUs U l := fun x hx => hUd ▸ hx
    have hUl : U.length ≤ Tr.cnts l := hUd ▸ labss_len l
    simp only [progR, h0, if_true, hN]
    simp only [Tr.av] at hck ⊢
    simp only [Tr.cnt] at hc hN
    have hU3 : U.length ≤ 30000000 := by omega
    have hUc : (U.length + 1) * Tr.cnts l ≤ 4001 * 4000 := Nat.mul_le_mul (by omega) (by omega)
    have hUc2 : U.length * Tr.cnts l ≤ 4000 * 4000 := Nat.mul_le_mul (by omega) (by omega)
    obtain ⟨fin, hfin⟩ : ∃ fin, foldK (declF N []) 0 l (⟨[], [], 0⟩, ⟨[], []⟩) = fin := ⟨_, rfl⟩
    have hpw : progW N (.node 80 n a b l) = { fin.1 with X := fin.1.X ++ endsL fin.2.Out [] ++ endsL (seenL fin.2.S []) [] } := by rw [← hfin]; rfl
    rw [hpw]
    refine SF.le (SF.cut (sf_start [2, 3] 81 Tryz.func21 rfl rfl rfl (by decide) (by simp) ?_))
    repeat' first
      | refine aSq ?_ | refine aSk ?_ | refine aBl ?_ | refine tN ?_
      | (refine rg 1 ?_; refine tk 1 ?_; refine fc en38 ?_; refine SF.then hck ?_; refine tk 1 ?_; refine dn ?_)
      | (refine rg 4 ?_; refine aops_take 3 (mu := mu5) tab_ok (by simp; with_reducible rfl) ?_; refine dn ?_)
      | (refine rg 5 ?_; refine aops_take 3 (mu := mu5) tab_ok (by simp; with_reducible rfl) ?_; refine dn ?_)
      | refine ru ?_
      | (refine awp_if rfl (fun hb => ?_) (fun hb => ?_) <;> (try simp at hb) <;> try (exfalso; omega))
      | fail
    have hT : ∀ x y : AObj, (H.objs ++ [x, y])[H.objs.length + 1]? = some y := fun x y => by simp
    have hT1 : ∀ x y z : AObj, ((H.objs ++ [x, y]).set (H.objs.length + 1) z) = H.objs ++ [x, z] := fun x y z => by rw [List.set_append_right _ _ (by omega)]; simp
    refine awp_objLe (H.objs.length + 1) [.sl 4 (bds []) .shut, .sl 6 (Hs.avs []) .shut] (by simp; rfl) (by simp [Hs.avs, bds]) ?_
    refine awp_loop_inv (fun q st => ∃ (i : Nat) (cur : Wk × Stt) (Hc : Hp), q = l.length - i ∧ i ≤ l.length ∧ foldK (declF N []) i (l.drop i) cur = fin ∧ LenX U ⟨[], [], 0⟩ cur.1 (Tr.cnts (l.take i)) ∧ SttOK U ⟨[], []⟩ cur.2 (Tr.cnts (l.take i)) ∧ WKo Hc H.objs.length cur.1 ∧ STo Hc (H.objs.length + 1) cur.2 ∧
      H.objs.length ≤ Hc.objs.length ∧ (∀ j, j < H.objs.length → Hc.objs[j]? = H.objs[j]?) ∧
      Sub st ⟨81, [(0, .ptr [.int .i64 80, .int .i64 n, .str a, .str b, .sl 1 (Tr.avs l) .shut]), (5, .ref H.objs.length 0), (6, .ref (H.objs.length + 1) 0), (7, .int .i64 i)], Hc⟩) l.length
      ⟨0, (⟨[], [], 0⟩, ⟨[], []⟩), ⟨H.objs ++ [.cells [.slnil, .slnil, .int .i64 0], sttO ⟨[], []⟩], H.hi⟩, by simp, by simp, hfin, .refl _ _ _, .refl (by simp [SOK]) .nil _, ⟨.slnil, .slnil, by simp, .slnil _ _ _, .slnil _ _ _, .slnil _⟩, by simp [STo], by simp, fun j hj => List.getElem?_append_left hj, sb (hH := by simp only [hT1]; rfl)⟩ ?_
    clear hfin
    rintro q st ⟨i, cur, Hc, rfl, hi, hfo, hlo, hst, hwc, hxc, hlc, hfc, hs2⟩
    refine awp_sub hs2 ?_
    clear hs2 st
    have hxc' : Hc.objs[H.objs.length + 1]? = some (.cells [.sl 4 (bds cur.2.S) .shut, .sl 6 (Hs.avs cur.2.Out) .shut]) := hxc
    repeat' first
      | refine aSq ?_ | refine aSk ?_ | refine aEx ?_ | refine aBl ?_ | refine tN ?_
      | (refine rg 9 ?_; skip)
      | (refine rg 10 ?_; (have hil : i = l.length := by omega); subst hil; rw [foldK_end _ (Nat.le_refl _)] at hfo; subst hfo; rw [List.take_length] at hlo hst; have hx1 := hlo.2; have hol := hst.o.len; have hsl := hst.len; simp only [List.length_nil] at hx1 hsl; refine tk 5 ?_ (by simp [hxc']; with_reducible rfl); refine fc en40 ?_; refine (SF.args (.cons (.refl _) (.cons (.refl _) (.cons (.nilShut 1) .nil))) (sf40 (o1 := .shut) (p := []) hst.o.nodup hst.o.lo (by omega) (by simp) (by omega) hwc)).mono ?_; rintro x1 H2 ⟨rfl, hwb, hfb⟩; refine dn ?_)
      | refine ru ?_
      | (refine awp_if rfl (fun hb => ?_) (fun hb => ?_) <;> (try simp at hb) <;> try (exfalso; omega))
      | fail
    · (have hlt : i < l.length := by assumption); (have q1 := Tr.cnts_take l i hlt); (have q2 := Tr.cnts_take_le l (i + 1)); (have q3 := Tr.cnts_le l i hlt); (have m1 : (U.length + 1) * Tr.cnts (l.take (i + 1)) = (U.length + 1) * Tr.cnts (l.take i) + (U.length + 1) * l[i].cnt := by rw [q1, Nat.mul_add]); (have m2 := mul_le (U.length + 1) q2); (have m3 : U.length * Tr.cnts (l.take (i + 1)) = U.length * Tr.cnts (l.take i) + U.length * l[i].cnt := by rw [q1, Nat.mul_add]); (have m4 := mul_le U.length q2); (have h0 := hst.len); (have h1 := hlo.1); (have h2 := hlo.2); (have q4 := (mods_ok U N).2 cur.2 l[i] (down [] i) cur.1 (hl _ (List.getElem_mem hlt)) hst.s hst.o (hul.mem _ (List.getElem_mem hlt)) (by rw [down_len]; simp only [List.length_nil]; omega))
      simp only [List.length_nil] at h0 h1 h2
      refine tk 11 ?_ (by simp [List.getElem?_eq_getElem hlt]; with_reducible rfl)
      refine fc en39 ?_
      refine ((modsS U hU3 N).2 l[i] cur.2 (down [] i) .capped Hc H.objs.length (H.objs.length + 1) cur.1 (by omega) (hl _ (List.getElem_mem hlt)) hst.s hst.o (hul.mem _ (List.getElem_mem hlt)) (by omega) (by rw [down_len]; simp only [List.length_nil]; omega) (by omega) (by omega) hwc hxc (by omega)).mono ?_; rintro x1 H2 ⟨rfl, hwb, hxb, hfb⟩
      refine dn ?_
      repeat' first
        | refine tN ?_
        | refine ru ?_
        | fail
      exact ⟨l.length - (i + 1), by omega, i + 1, _, H2, rfl, by omega, by rw [foldK_drop _ hlt] at hfo; exact hfo, by rw [q1]; exact hlo.trans q4.1, by rw [q1]; exact hst.trans q4.2, hwb, hxb, by rw [hfb.1]; omega, fun j hj => (hfb.2 j (by omega)).trans (hfc j hj), sb⟩
    have hx2 : H2.objs[H.objs.length + 1]? = some (.cells [.sl 4 (bds cur.2.S) .shut, .sl 6 (Hs.avs cur.2.Out) .shut]) := (hfb.2 _ (by omega)).trans hxc'
    have hl2 : H.objs.length ≤ H2.objs.length := by rw [hfb.1]; omega
    have hf2 : ∀ j, j < H.objs.length → H2.objs[j]? = H.objs[j]? := fun j hj => (hfb.2 j (by omega)).trans (hfc j hj)
    have hSl : cur.2.S.length ≤ 17000000 := by omega
    have hbl : ∀ b ∈ cur.2.S, 2 ≤ b.label.length := fun b hb => (hst.s b hb).lo
    clear hfb hfc hlc hxc' hxc hwc
    obtain ⟨fs, hfs⟩ : ∃ fs, seenL cur.2.S [] = fs := ⟨_, rfl⟩
    rw [hfs]
    refine awp_loop_inv (fun q st => ∃ (i : Nat) (ls : List Hs) (ow : Own), q = cur.2.S.length - i ∧ i ≤ cur.2.S.length ∧ seenL (cur.2.S.drop i) ls = fs ∧ ls.length ≤ i ∧ (ls.map Hs.label).Nodup ∧ (∀ x ∈ ls, 2 ≤ x.label.length) ∧
      Sub st ⟨81, [(5, .ref H.objs.length 0), (6, .ref (H.objs.length + 1) 0), (8, .sl 6 (Hs.avs ls) ow), (9, .int .i64 i)], H2⟩) cur.2.S.length
      ⟨0, [], .shut, by simp, by simp, hfs, by simp, by simp, by simp, sb (only_cons (by simp) (only_cons (by simp) (only_cons (.nilShut 6) (only_cons (by simp) only_nil))))⟩ ?_
    clear hfs
    rintro q st ⟨i, ls, ow, rfl, hi, hfo, hll2, hnd, h2, hs2⟩
    refine awp_sub hs2 ?_
    clear hs2 st
    repeat' first
      | refine aSq ?_ | refine aSk ?_ | refine aEx ?_ | refine aBl ?_ | refine tN ?_
      | (refine dr 15 [(0, true), (1, true), (2, true), (3, true), (4, true), (5, true), (6, true), (7, true), (8, true), (9, true), (10, true), (11, true), (12, true), (13, true), (14, true), (15, true), (16, true), (17, false), (18, true)] [] ?_; refine da 17 (fun _ => ?_) (h := (by simp (disch := omega) [hx2]; with_reducible rfl)); refine df en41 ?_; refine SF.then (SF.args (.cons (.refl _) (.cons ?_ .nil)) (sf41 (own := ow) (l := ls) (k := seenH (cur.2.S[i]'(by assumption))) (by omega))) ?_; (simp only [seenH, Hs.av]; exact .agg (.cons (.refl _) (.cons (.nilShut 6) (LeL.refl _)))); refine ⟨.inr rfl, ?_⟩; refine dl ?_ (h := (by simp (disch := omega) [hx2]; with_reducible rfl)))
      | (refine rg 16 ?_; (have hil : i = cur.2.S.length := by omega); subst hil; rw [List.drop_length] at hfo; simp only [seenL] at hfo; subst hfo; refine tk 2 ?_ (by simp; with_reducible rfl); refine fc en40 ?_; refine (SF.args (.cons (.refl _) (.cons (.refl _) (.cons (.nilShut 1) .nil))) (sf40 (o1 := ow) (p := []) hnd h2 (by omega) (by simp) (by simp only [List.length_append, ends_len]; omega) hwb)).mono ?_; rintro x1 H3 ⟨rfl, hwd, hfd⟩; refine dn ?_)
      | (refine ru ?_ (by simp (disch := omega) [hx2]; with_reducible rfl))
      | (refine awp_if rfl (fun hb => ?_) (fun hb => ?_) <;> (try simp at hb) <;> try (exfalso; omega))
      | fail
    · have hlt : i < cur.2.S.length := by assumption
      exact ⟨cur.2.S.length - (i + 1), by omega, i + 1, _, .shut, rfl, by omega, by rw [seenL_drop hlt] at hfo; exact hfo, by have := put_len ls (seenH cur.2.S[i]); omega, put_nodup _ hnd, put_two h2 (k := seenH cur.2.S[i]) (hbl _ (List.getElem_mem hlt)), sb⟩
    obtain ⟨vL, vX, hob, aL, aX, -⟩ := hwd
    have hl3 : H.objs.length < H3.objs.length := obj_lt hob
    refine awp_only [(5, .ref H.objs.length 0)] (only_cons (by simp) only_nil) ?_
    refine awp_freeze H.objs.length [(5, .ptr [vL, vX, .int .i64 cur.1.E])] hob (.cons (.ptr _ 0 rfl) .nil) ?_
    repeat' first
      | refine aRt ?_
      | (refine dr 17 [(0, true), (1, true), (2, true), (3, true), (4, true), (5, true), (6, true)] [] ?_; refine dl ?_)
      | fail
    have eL : ∀ n m, Le (cln n m vL) (.sl 5 (lks cur.1.L) .shut) := fun n m => by have := App.leC aL n m; rwa [lks_cln] at this
    have eX : ∀ n m, Le (cln n m vX) (.sl 5 (lks (cur.1.X ++ endsL cur.2.Out [] ++ endsL ls [])) .shut) := fun n m => by have := App.leC aX n m; rwa [lks_cln] at this
    refine ⟨H.hi.length, Nat.le_refl _, fun hold => ⟨_, .tuple (.cons (.ptr (.cons (eL _ _) (.cons (eX _ _) (.cons (.refl _) .nil)))) (.cons (.refl _) .nil)), ?_, rfl⟩⟩
    apply List.ext_getElem?
    intro j
    simp only [List.getElem?_map, List.getElem?_take]
    split
    · rename_i hj
      rw [List.getElem?_set_ne (by omega), hfd.2 j (by omega), hf2 j hj]
      have := congrArg (fun l => l[j]?) hold
      simpa only [List.getElem?_map] using this
    · rename_i hj
      rw [List.getElem?_eq_none (by omega)]; rfl
  · have : (checkE t 7 == 0) = false := by simpa using h0
    simp only [progR, h0, if_false]
    refine SF.le (SF.cut (sf_start [2, 3] 81 Tryz.func21 rfl rfl rfl (by decide) (by simp) ?_))
    repeat' first
      | refine aSq ?_ | refine aRt ?_ | refine tN ?_ | refine tR ?_
      | (refine rg 1 ?_; refine tk 1 ?_; refine fc en38 ?_; refine SF.then hck ?_; refine tk 1 ?_; refine dn ?_)
      | refine ru ?_
      | (refine awp_if rfl (fun hb => ?_) (fun hb => ?_) <;> (try simp at hb) <;> try (exfalso; omega))
      | fail
    exact ⟨H.hi.length, Nat.le_refl _, fun hold => ⟨_, .refl _, by simpa using hold, by simp⟩⟩
end Go.Av
namespace Go.Av
def LkOK (k : Lk) : Prop := k.at'.length ≤ 10000 ∧ k.site.length ≤ 10000 ∧ k.rest.length ≤ 200
structure LB (w : Wk) : Prop where
  l : ∀ k ∈ w.L, LkOK k
  x : ∀ k ∈ w.X, LkOK k
theorem splitB_len (s : Str) : (splitB s).length ≤ 129 := by
  unfold splitB
  split
  · rename_i h
    have := pieces_len [] s
    have := longB_len h
    omega
  · simp
theorem one_lk {U : List Str} {s : List Bd} {p : Path} {sp long : Str} {k : Lk} {h : List Hs} (hs : SOK U s) (hp : p.length ≤ 10000) (e : one s p sp long = some (k, h)) : LkOK k := by
  have hl := splitB_len long
  unfold one at e
  split at e
  · cases e
  · rename_i x r hr
    rw [hr] at hl
    simp only [List.length_cons] at hl
    split at e
    · cases e
    · rename_i b hb
      split at e
      · cases e
      · cases e
        refine ⟨hp, (hs b (findL_some hb).1).site, ?_⟩
        simp only
        split
        · simp only [List.length_cons]; omega
        · omega
theorem refer_lb {U : List Str} {w : Wk} {s : List Bd} {p : Path} {sp long : Str} (hs : SOK U s) (hp : p.length ≤ 10000) (h : LB w) : LB (refer w s p sp long).1 := by
  unfold refer
  split
  · exact ⟨h.l, h.x⟩
  · rename_i k hh e
    refine ⟨fun q hq => ?_, h.x⟩
    rcases List.mem_append.1 hq with q1 | q1
    · exact h.l q q1
    · rw [List.mem_singleton.1 q1]; exact one_lk hs hp e
theorem foldK_inv {σ : Type} {f : Nat → Tr → σ → σ} (R : σ → Prop) : ∀ (l : List Tr) (i : Nat) (x : σ), (∀ t ∈ l, ∀ j x, i ≤ j → R x → R (f j t x)) → R x → R (foldK f i l x)
  | [], _, _, _, h => h
  | t :: l, i, x, hs, h => foldK_inv R l (i + 1) (f i t x) (fun u hu j x hj => hs u (.tail _ hu) j x (by omega)) (hs t (.head _) i x (Nat.le_refl _) h)
theorem bind1 {U : List Str} {s : List Bd} {x : Str} {p : Path} {c : UInt8} (hs : SOK U s) (hx : x.length ≤ 128) (hp : p.length ≤ 10000) : SOK U (bindB s (c :: 58 :: x) p []) := bindB_ok hs (by simp) (by simp; omega) hp .nil
theorem typW_lb {U : List Str} : ∀ (N : Nat) (s : List Bd) (t : Tr) (p : Path) (w : Wk), TyW t → SOK U s → p.length + N ≤ 10000 → LB w → LB (typW N s t p w)
  | 0, _, _, _, _, _, _, _, h => h
  | N + 1, s, _, p, w, .mk (k := k) (n := n) (a := a) (b := b) (l := l) h4 ha hl, hs, hp, h => by
    simp only [typW, Tr.kids, Tr.kind, Tr.name]
    have hs' : SOK U (if k = 7 ∨ k = 62 ∨ k = 72 then bindB s (116 :: 58 :: a) p [] else s) := by
      split
      · exact bind1 hs ha (by omega)
      · exact hs
    have h0 : LB (if k = 4 then (refer w s p [116] a).1 else w) := by
      split
      · exact refer_lb hs (by omega) h
      · exact h
    exact foldK_inv LB l 0 _ (fun t ht j x _ hx => typW_lb (U := U) N _ t _ x (hl t ht) hs' (by rw [down_len]; omega) hx) h0
theorem exprW_lb {U : List Str} : ∀ (N : Nat) (s : List Bd) (t : Tr) (p : Path) (w : Wk), ExW t → SOK U s → p.length + N ≤ 10000 → LB w → LB (exprW N s t p w)
  | 0, _, _, _, _, _, _, _, h => h
  | N + 1, s, t, p, w, ht, hs, hp, h => by
    have ih := exprW_lb (U := U) N
    have it := typW_lb (U := U) N
    have hd : ∀ i, (down p i).length + N ≤ 10000 := fun i => by rw [down_len]; omega
    cases ht with
    | var hx => simp only [exprW, Tr.kind, Tr.kids, foldK, if_true]; exact refer_lb hs (by omega) h
    | lam ha h1 h2 =>
      simp only [exprW, Tr.kind, Tr.kids, foldK, Tr.name]
      simp
      exact ih _ _ _ _ h2 (bind1 hs ha (by omega)) (hd _) (it _ _ _ _ h1 hs (hd _) h)
    | bnd ha h1 h2 =>
      simp only [exprW, Tr.kind, Tr.kids, foldK, Tr.name]
      simp
      exact ih _ _ _ _ h2 (bind1 hs ha (by omega)) (hd _) (ih _ _ _ _ h1 hs (hd _) h)
    | arm hb h2 =>
      simp only [exprW, Tr.kind, Tr.kids, foldK, Tr.name, Tr.mark]
      simp
      exact ih _ _ _ _ h2 (bind1 hs hb (by omega)) (hd _) h
    | fold h1 h2 h3 =>
      simp only [exprW, Tr.kind, Tr.kids, foldK]
      simp
      refine foldK_inv LB _ 2 _ (fun t ht j x hj hx => ?_) (it _ _ _ _ h2 hs (hd _) (ih _ _ _ _ h1 hs (hd _) h))
      rw [if_neg (by omega)]
      exact ih _ _ _ _ (h3 t ht) hs (hd _) hx
    | other n23 n24 n29 n33 n34 hl =>
      simp only [exprW, Tr.kind, Tr.kids, n23, n24, n29, n33, n34, if_false, false_and, or_false]
      exact foldK_inv LB _ 0 _ (fun t ht j x _ hx => ih _ _ _ _ (hl t ht) hs (hd _) hx) h
def SigL (U : List Str) (N : Nat) : Prop := ∀ (s : List Bd) (t : Tr) (p : Path) (w : Wk), SgW t → SOK U s → InU U t → p.length + N ≤ 10000 → LB w → LB (sigW N s t p w).1
def SpecL (U : List Str) (N : Nat) : Prop := ∀ (x : Stt) (t : Tr) (p : Path) (w : Wk), SpW t → SOK U x.S → HsOK U x.Out → InU U t → p.length + N ≤ 10000 → LB w → LB (specW N x t p w).1
def ModL (U : List Str) (N : Nat) : Prop := ∀ (s : List Bd) (t : Tr) (p : Path) (w : Wk), MdW t → SOK U s → InU U t → p.length + N ≤ 10000 → LB w → LB (modW N s t p w).1
def DeclL (U : List Str) (N : Nat) : Prop := ∀ (x : Stt) (t : Tr) (p : Path) (w : Wk), DcW t → SOK U x.S → HsOK U x.Out → InU U t → p.length + N ≤ 10000 → LB w → LB (declW N x t p w).1
theorem sigL_step {U : List Str} {N : Nat} (ihg : SigL U N) (ihp : SpecL U N) : SigL U (N + 1) := by
  intro s t p w ht hs hu hp h
  have hd : ∀ i, (down p i).length + N ≤ 10000 := fun i => by rw [down_len]; omega
  cases ht with
  | name hx => simp only [sigW, Tr.kind, if_true]; exact refer_lb hs (by omega) h
  | @wh n a b g t2 h1 h2 =>
    rw [sigW_wh]
    exact typW_lb N _ _ _ _ h2 hs (hd _) (ihg _ _ _ _ h1 hs hu.kids.head (hd _) h)
  | @body n a b l hl =>
    rw [sigW_body]
    refine (foldK_inv (fun y : Wk × Stt => LB y.1 ∧ SOK U y.2.S ∧ HsOK U y.2.Out) l 0 (w, ⟨s, []⟩) (fun t ht j x _ hx => ?_) ⟨h, hs, .nil⟩).1
    have q := ((sigs_ok U N).2 x.2 t (down p j) x.1 (hl t ht) hx.2.1 hx.2.2 (hu.kids.mem t ht) (hd _)).2
    exact ⟨ihp _ _ _ _ (hl t ht) hx.2.1 hx.2.2 (hu.kids.mem t ht) (hd _) hx.1, q.s, q.o⟩
theorem specW_tysM (N : Nat) (x : Stt) (n : Int) (a b : Str) (l : List Tr) (p : Path) (w : Wk) : specW (N + 1) x (.node 61 n a b l) p w = (foldK (fun i k w => typW N x.S k (down p i) w) 0 l w, x.put (116 :: 58 :: a) p []) := by simp [specW, Tr.kind, Tr.kids, Tr.name]
theorem specL_step {U : List Str} {N : Nat} (ihg : SigL U N) : SpecL U (N + 1) := by
  intro x t p w ht hs ho hu hp h
  have hd : ∀ i, (down p i).length + N ≤ 10000 := fun i => by rw [down_len]; omega
  cases ht with
  | val ha h1 => rw [specW_val]; exact typW_lb N _ _ _ _ h1 hs (hd _) h
  | typ0 ha => rw [specW_tysM]; exact h
  | typ1 ha h1 => rw [specW_tysM]; exact typW_lb N _ _ _ _ h1 hs (hd _) h
  | data h8 h1 => rw [specW_data]; exact typW_lb (N + 1) _ _ _ _ h1 hs hp h
  | str ha h1 => rw [specW_str]; exact ihg _ _ _ _ h1 hs hu.kids.head (hd _) h
  | inc h1 => rw [specW_inc]; exact ihg _ _ _ _ h1 hs hu.kids.head (hd _) h
  | share => simp only [specW, Tr.kind]; exact h
theorem sigsL (U : List Str) : ∀ N, SigL U N ∧ SpecL U N
  | 0 => ⟨fun s t p w _ _ _ _ h => by simp only [sigW]; exact h, fun x t p w _ _ _ _ _ h => by simp only [specW]; exact h⟩
  | N + 1 => have ih := sigsL U N; ⟨sigL_step ih.1 ih.2, specL_step ih.1⟩
theorem linkOf_ok {out : List Hs} {p : Path} (hp : p.length ≤ 10000) (hs : ∀ h ∈ out, h.site.length ≤ 10000) (x : Str) : LkOK (linkOf out p x) := by
  unfold linkOf
  split
  · rename_i h e
    refine ⟨hp, hs h (findL_some e).1, ?_⟩
    simp only
    split <;> simp
  · exact ⟨by simp, by simp, by simp⟩
theorem ends_lb {w : Wk} {out : List Hs} {p : Path} (hp : p.length ≤ 10000) (hs : ∀ h ∈ out, h.site.length ≤ 10000) (h : LB w) : LB { w with X := w.X ++ endsL out p } := by
  refine ⟨h.l, fun k hk => ?_⟩
  rcases List.mem_append.1 hk with q | q
  · exact h.x k q
  · obtain ⟨x, _, rfl⟩ := List.mem_map.1 q
    exact linkOf_ok hp hs x
theorem modL_step {U : List Str} {N : Nat} (ihm : ModL U N) (ihd : DeclL U N) : ModL U (N + 1) := by
  intro s t p w ht hs hu hp h
  have hd : ∀ i, (down p i).length + N ≤ 10000 := fun i => by rw [down_len]; omega
  cases ht with
  | path hx => rw [modW_path]; exact refer_lb hs (by omega) h
  | app hx h1 => rw [modW_app]; exact ihm _ _ _ _ h1 hs hu.kids.head (hd _) (refer_lb hs (by omega) h)
  | sealM h1 h2 => rw [modW_seal]; exact (sigsL U N).1 _ _ _ _ h2 hs hu.kids.tail.head (hd _) (ihm _ _ _ _ h1 hs hu.kids.head (hd _) h)
  | @body n a b l hl =>
    rw [modW_body]
    have := foldK_inv (fun y : Wk × Stt => LB y.1 ∧ SOK U y.2.S ∧ HsOK U y.2.Out) l 0 (w, ⟨s, []⟩) (f := declF N p) (fun t ht j x _ hx => ?_) ⟨h, hs, .nil⟩
    · exact ends_lb (by omega) this.2.2.site this.1
    · have q := ((mods_ok U N).2 x.2 t (down p j) x.1 (hl t ht) hx.2.1 hx.2.2 (hu.kids.mem t ht) (hd _)).2
      exact ⟨ihd _ _ _ _ (hl t ht) hx.2.1 hx.2.2 (hu.kids.mem t ht) (hd _) hx.1, q.s, q.o⟩
theorem declL_step {U : List Str} {N : Nat} (ihm : ModL U N) : DeclL U (N + 1) := by
  intro x t p w ht hs ho hu hp h
  have hd : ∀ i, (down p i).length + N ≤ 10000 := fun i => by rw [down_len]; omega
  cases ht with
  | val1 ha h1 => rw [declW_val1]; exact exprW_lb N _ _ _ _ h1 hs (hd _) h
  | val2 ha h1 h2 => rw [declW_val2]; exact exprW_lb N _ _ _ _ h2 hs (hd _) (typW_lb N _ _ _ _ h1 hs (hd _) h)
  | typ ha h1 => rw [declW_typ]; exact typW_lb N _ _ _ _ h1 hs (hd _) h
  | data h8 h1 => rw [declW_data]; exact typW_lb (N + 1) _ _ _ _ h1 hs hp h
  | str ha h1 => rw [declW_str]; exact ihm _ _ _ _ h1 hs hu.kids.head (hd _) h
  | sg ha h1 => rw [declW_sg]; exact (sigsL U N).1 _ _ _ _ h1 hs hu.kids.head (hd _) h
  | @ftor n a b g m ha hb h1 h2 =>
    rw [declW_ftor]
    have q := ((sigs_ok U N).1 x.S g (down p 0) w h1 hs hu.kids.head (hd _)).2
    exact ihm _ _ _ _ h2 (bindB_ok hs (by simp) (by simp; omega) (by omega) q) hu.kids.tail.head (hd _) ((sigsL U N).1 _ _ _ _ h1 hs hu.kids.head (hd _) h)
  | opn hx => rw [declW_opn]; exact refer_lb hs (by omega) h
  | inc hx => rw [declW_inc]; exact refer_lb hs (by omega) h
theorem modsL (U : List Str) : ∀ N, ModL U N ∧ DeclL U N
  | 0 => ⟨fun s t p w _ _ _ _ h => by simp only [modW]; exact h, fun x t p w _ _ _ _ _ h => by simp only [declW]; exact h⟩
  | N + 1 => have ih := modsL U N; ⟨modL_step ih.1 ih.2, declL_step ih.1⟩
theorem seenL_site : ∀ {s : List Bd} {l : List Hs}, (∀ h ∈ l, h.site.length ≤ 10000) → (∀ b ∈ s, b.site.length ≤ 10000) → ∀ h ∈ seenL s l, h.site.length ≤ 10000
  | [], l, h1, _ => h1
  | b :: s, l, h1, h2 => by
    refine seenL_site (s := s) (l := put l (seenH b)) (fun h hh => ?_) fun c hc => h2 c (.tail _ hc)
    rcases List.mem_append.1 hh with q | q
    · exact h1 h (List.mem_filter.1 q).1
    · rw [List.mem_singleton.1 q]; exact h2 b (.head _)
theorem progW_lb {t : Tr} (hc : t.cnt ≤ 4000) (h : isB t 7 = true) : LB (progW t.cnt t) ∧ (progW t.cnt t).L.length ≤ 67108863 ∧ (progW t.cnt t).X.length ≤ 67108863 := by
  obtain ⟨n, a, b, l, rfl, hl⟩ := pr_ok h
  obtain ⟨N, hN⟩ : ∃ N, (Tr.node 80 n a b l).cnt = N := ⟨_, rfl⟩
  rw [hN] at hc ⊢
  obtain ⟨U, hUd⟩ : ∃ U, Tr.labss l = U := ⟨_, rfl⟩
  have hul : InUs U l := fun x hx => hUd ▸ hx
  have hUl : U.length ≤ Tr.cnts l := hUd ▸ labss_len l
  simp only [Tr.cnt] at hN
  have hUc : (U.length + 1) * Tr.cnts l ≤ 4001 * 4000 := Nat.mul_le_mul (by omega) (by omega)
  have hUc2 : U.length * Tr.cnts l ≤ 4000 * 4000 := Nat.mul_le_mul (by omega) (by omega)
  have hd : ∀ i, (down [] i).length + N ≤ 10000 := fun i => by rw [down_len]; simp only [List.length_nil]; omega
  have hpw : progW N (.node 80 n a b l) = { (foldK (declF N []) 0 l (⟨[], [], 0⟩, ⟨[], []⟩)).1 with X := (foldK (declF N []) 0 l (⟨[], [], 0⟩, ⟨[], []⟩)).1.X ++ endsL (foldK (declF N []) 0 l (⟨[], [], 0⟩, ⟨[], []⟩)).2.Out [] ++ endsL (seenL (foldK (declF N []) 0 l (⟨[], [], 0⟩, ⟨[], []⟩)).2.S []) [] } := rfl
  have q1 := foldK_inv (fun y : Wk × Stt => LB y.1 ∧ SOK U y.2.S ∧ HsOK U y.2.Out) l 0 (⟨[], [], 0⟩, ⟨[], []⟩) (f := declF N []) (fun t ht j x _ hx => by
    have q := ((mods_ok U N).2 x.2 t (down [] j) x.1 (hl t ht) hx.2.1 hx.2.2 (hul.mem t ht) (hd _)).2
    exact ⟨(modsL U N).2 _ _ _ _ (hl t ht) hx.2.1 hx.2.2 (hul.mem t ht) (hd _) hx.1, q.s, q.o⟩) ⟨⟨by simp, by simp⟩, by simp [SOK], .nil⟩
  have q2 := decl_fold (U := U) (N := N) (mods_ok U N).2 (p := []) (by simp only [List.length_nil]; omega) hl hul ⟨[], []⟩ ⟨[], [], 0⟩ 0 (by simp [SOK]) .nil
  rw [hpw]
  obtain ⟨fin, hfin⟩ : ∃ fin, foldK (declF N []) 0 l (⟨[], [], 0⟩, ⟨[], []⟩) = fin := ⟨_, rfl⟩
  have q2' : LenX U ⟨[], [], 0⟩ fin.1 (Tr.cnts l) ∧ SttOK U ⟨[], []⟩ fin.2 (Tr.cnts l) := hfin ▸ q2
  rw [hfin] at q1 ⊢
  have hx1 := q2'.1.1
  have hx2 := q2'.1.2
  have hx3 := q2'.2.len
  have hx4 := q1.2.2.len
  simp only [List.length_nil] at hx1 hx2 hx3
  have hsl : ∀ (s : List Bd) (l : List Hs), (seenL s l).length ≤ s.length + l.length := by
    intro s
    induction s with
    | nil => intro l; simp [seenL]
    | cons b s ih => intro l; have := ih (put l (seenH b)); have := put_len l (seenH b); simp only [seenL, List.length_cons]; omega
  have hse := hsl fin.2.S []
  simp only [List.length_nil] at hse
  refine ⟨ends_lb (w := { fin.1 with X := fin.1.X ++ endsL fin.2.Out [] }) (by simp) (seenL_site (by simp) fun b hb => (q1.2.1 b hb).site) (ends_lb (by simp) q1.2.2.site q1.1), by simp only; omega, ?_⟩
  simp only [List.length_append, ends_len]
  omega
end Go.Av
namespace Go.Av
open Go.RowKit (Below)
section
variable {P : Program} {W0 : World}
theorem SF.anywhere {f : FuncId} {args : List AV} {H : Hp} {r : AV} (hr : cln 0 0 r = r) (hargs : ∀ g g' w (vs : List Value), AR g w args vs → AR g' w args vs)
    (h : ∀ W, SF P W f args ⟨[], []⟩ fun x _ => x = r) : SF P W0 f args H fun x H' => H' = H ∧ x = r := by
  intro g w vs inv har
  have i0 : WInv w ⟨fun _ => 0, fun _ => false, fun _ => none, fun _ _ => none⟩ ⟨[], []⟩ w :=
    ⟨fun _ _ => rfl, Nat.le_refl _, rfl, rfl, rfl, fun _ _ => rfl, fun _ _ => rfl, fun b hb => (by cases hb), fun r b hb => (by cases hb), fun _ _ => rfl, fun _ _ _ hb => (by cases hb), fun r o ho => (by simp at ho),
      fun _ _ _ _ hv => (by cases hv), fun _ _ _ => rfl, fun t m n hm => (by simp at hm), fun t n hn => (by simp at hn), fun t t' n n' b x x' hn => (by simp at hn)⟩
  refine (h w _ w vs i0 (hargs g _ w _ har)).mono ?_
  rintro e w' ⟨v, g', x, H0, rfl, rfl, ext, i, hv⟩
  have vc := VR.cut (n := 0) (m := 0) x v hv
  rw [hr] at vc
  have hb : Below w.heap.size w w' := Below.of i
  obtain ⟨ib, eb⟩ := inv.below hb
  obtain ⟨g2, hg2⟩ : ∃ g2 : Gh, g2 = ⟨fun b => if b < w.heap.size then g.pub b else g'.pub b, fun b => if b < w.heap.size then g.fro b else g'.fro b, g.loc, g.ver⟩ := ⟨_, rfl⟩
  have p1 : ∀ b, b < w.heap.size → g2.pub b = g.pub b := fun b hb => by rw [hg2]; simp only [if_pos hb]
  have p2 : ∀ b, w.heap.size ≤ b → g2.pub b = g'.pub b := fun b hb => by rw [hg2]; simp only [if_neg (Nat.not_lt.2 hb)]
  have f1 : ∀ b, b < w.heap.size → g2.fro b = g.fro b := fun b hb => by rw [hg2]; simp only [if_pos hb]
  have f2 : ∀ b, w.heap.size ≤ b → g2.fro b = g'.fro b := fun b hb => by rw [hg2]; simp only [if_neg (Nat.not_lt.2 hb)]
  have l1 : g2.loc = g.loc := by rw [hg2]
  have v1 : g2.ver = g.ver := by rw [hg2]
  clear hg2
  have e1 : Ext (g'.cut 0 0) w' g2 w' := by
    refine ⟨Nat.le_refl _, fun b => ?_, fun _ _ _ _ h => h, fun b hb => ?_, fun _ _ => rfl, fun r b hb => ?_, fun t n x hx => ?_⟩
    · rcases Nat.lt_or_ge b w.heap.size with q | q
      · have : (g'.cut 0 0).pub b = 0 := i.pubOld b q
        omega
      · rw [p2 b q]; exact Nat.le_refl _
    · have hb' : g'.fro b = true := hb
      rw [f2 b (i.fro b hb').1]; exact hb'
    · simp [Gh.cut] at hb
    · simp [Gh.cut] at hx
  have ew : ∀ b, g.pub b ≤ g2.pub b := fun b => by
    rcases Nat.lt_or_ge b w.heap.size with q | q
    · rw [p1 b q]; exact Nat.le_refl _
    · rw [inv.pubNew b q]; exact Nat.zero_le _
  have fw : ∀ b, g.fro b = true → g2.fro b = true := fun b hb => by rw [f1 b (inv.fro b hb).2.1]; exact hb
  have e2 : Ext g w g2 w' := ⟨eb.size, ew, eb.cell, fw, eb.froz, fun r b hb => by rw [l1]; exact hb, fun t n x hx => by rw [v1]; exact hx⟩
  have e3 : Ext g w' g2 w' := ⟨Nat.le_refl _, ew, fun _ _ _ _ h => h, fw, fun _ _ => rfl, fun r b hb => by rw [l1]; exact hb, fun t n x hx => by rw [v1]; exact hx⟩
  have i2 : WInv W0 g2 H w' := by
    refine ⟨ib.base, ib.size, ib.os, ib.out, ib.tape, fun b hb => ?_, fun b hb => ?_, fun b hb => ?_, by rw [l1]; exact ib.locIn, by rw [l1]; exact ib.locNew, by rw [l1]; exact ib.inj, fun r o ho => ?_, by rw [v1]; exact ib.verIn, by rw [v1]; exact ib.verNew, by rw [v1]; exact ib.verHi, fun t n hn => ?_, by rw [v1]; exact ib.tokInj⟩
    · rw [p1 b (Nat.lt_of_lt_of_le hb inv.size)]; exact inv.pubOld b hb
    · rw [p2 b (Nat.le_trans eb.size hb)]; exact i.pubNew b hb
    · rcases Nat.lt_or_ge b w.heap.size with q | q
      · rw [f1 b q] at hb; exact ib.fro b hb
      · rw [f2 b q] at hb
        obtain ⟨h1, h2, h3⟩ := i.fro b hb
        exact ⟨Nat.le_trans inv.size h1, h2, h3⟩
    · refine (ib.obj r o ho).keep e3 fun b hl => ?_
      have hlt := (inv.locIn r b hl).2
      exact ⟨rfl, fun hz => (p1 b hlt).trans hz, fun hz => (f1 b hlt).trans hz⟩
    · refine (ib.tok t n hn).keep e3 fun b x hx => ?_
      have hlt := (inv.verIn t n b x hx).2
      exact ⟨rfl, p1 b hlt, fun r hr => by rw [l1]; exact hr⟩
  exact ⟨v, g2, x, H, rfl, ⟨rfl, rfl⟩, e2, i2, VR.mono e1 x v vc⟩
theorem str_args {s : List UInt8} (g g' : Gh) (w : World) (vs : List Value) (h : AR g w [.str s] vs) : AR g' w [.str s] vs := by
  obtain ⟨v, vs', e, h1, h2⟩ := h
  exact ⟨v, vs', e, h1, h2⟩
end
end Go.Av
namespace Go.Av
open Go.Proofs
variable {W0 : World}
set_option maxRecDepth 10000
set_option maxHeartbeats 4000000
def TokOKs (l : List Tok) : Prop := l.length ≤ 1000000 ∧ ∀ t ∈ l, t.text.length ≤ 67108863
def keyI (l : List Tok) (x : Int) (s : Str) : Bool := decide (0 ≤ x) && keyAt l x.toNat s
theorem key_lt {l : List Tok} {x : Int} {s : Str} (h : keyI l x s = true) : 0 ≤ x ∧ x < l.length := by
  simp only [keyI, Bool.and_eq_true, decide_eq_true_eq] at h
  have := keyAt_lt h.2
  omega
theorem sfk {l : List Tok} {own : Own} {x : Int} {s : Str} {H : Hp} (hx : 0 ≤ x) : SF Tryz.prog W0 138 [.sl 4 (toks l) own, .int .i64 x, .str s] H fun r H' => H' = H ∧ r = .bool (keyI l x s) := by
  have h := sf138 (W0 := W0) (l := l) (own := own) (i := x.toNat) (s := s) (H := H)
  rw [Int.toNat_of_nonneg hx] at h
  simpa [keyI, hx] using h
def nameI (l : List Tok) (x : Int) : Bool := decide (0 ≤ x) && (match l[x.toNat]? with | some t => decide (t.kind = 1) && checkB t.text | none => false)
def longI (l : List Tok) (x : Int) : Bool := decide (0 ≤ x) && (match l[x.toNat]? with | some t => decide (t.kind = 1) && longB t.text | none => false)
theorem name_lt {l : List Tok} {x : Int} (h : nameI l x = true) : 0 ≤ x ∧ x < l.length := by
  simp only [nameI, Bool.and_eq_true, decide_eq_true_eq] at h
  rcases Nat.lt_or_ge x.toNat l.length with q | q
  · omega
  · rw [List.getElem?_eq_none q] at h; simp at h
theorem long_lt {l : List Tok} {x : Int} (h : longI l x = true) : 0 ≤ x ∧ x < l.length := by
  simp only [longI, Bool.and_eq_true, decide_eq_true_eq] at h
  rcases Nat.lt_or_ge x.toNat l.length with q | q
  · omega
  · rw [List.getElem?_eq_none q] at h; simp at h
theorem sf169 {l : List Tok} {own : Own} {x : Int} {H : Hp} (hl : TokOKs l) (hx : 0 ≤ x) (hx2 : x ≤ 2000000) : SF Tryz.prog W0 169 [.sl 4 (toks l) own, .int .i64 x] H fun r H' => H' = H ∧ ∃ s : Str, r = .tuple [.str s, .bool (nameI l x)] ∧ s.length ≤ 67108863 := by
  refine SF.pureLe (sf_start [4, 5] 35 Tryz.func169 rfl rfl rfl (by decide) (by simp) ?_)
  obtain ⟨i, rfl⟩ := Int.eq_ofNat_of_zero_le hx
  have hln := hl.1
  rcases Nat.lt_or_ge i l.length with hlt | hge
  · have htx := hl.2 l[i] (List.getElem_mem hlt)
    repeat' first
      | refine aSq ?_ | refine aRt ?_ | refine aSk ?_ | refine tN ?_ | refine tR ?_
      | (refine rg 1 ?_; refine tk 2 ?_; (first | (refine te (fun hb => ?_) (fun hb => ?_) <;> (try simp at hb) <;> try (exfalso; omega)) | (refine tk 1 ?_)); all_goals (refine tk 5 ?_; (first | (refine te (fun hb => ?_) (fun hb => ?_) <;> (try simp at hb) <;> try (exfalso; omega)) | (refine tk 1 ?_)); all_goals (refine tk 7 ?_; (first | (refine te (fun hb => ?_) (fun hb => ?_) <;> (try simp at hb) <;> try (exfalso; omega)) | (refine tk 1 ?_)); all_goals (refine tk 5 ?_; (first | (refine fg en157 ?_; refine SF.then (sf157 (by omega)) ?_) | (refine tk 1 ?_)); refine tk 1 ?_; refine dn ?_))))
      | refine ru ?_
      | (refine awp_if rfl (fun hb => ?_) (fun hb => ?_) <;> (try simp at hb) <;> try (exfalso; omega))
      | fail
    all_goals
      (have e0 : l[i]? = some l[i] := List.getElem?_eq_getElem hlt
       first
         | (have e : nameI l i = true := by simp [nameI, e0, *]
            exact ⟨Gr.refl _, .tuple [.str l[i].text, .bool (nameI l i)], by simp [e], _, rfl, htx⟩)
         | (have e : nameI l i = false := by simp [nameI, e0, *]
            exact ⟨Gr.refl _, .tuple [.str [], .bool (nameI l i)], by simp [e], _, rfl, by simp⟩))
  · repeat' first
      | refine aSq ?_ | refine aRt ?_ | refine aSk ?_ | refine tN ?_
      | (refine rg 1 ?_; refine tk 2 ?_; (first | (refine te (fun hb => ?_) (fun hb => ?_) <;> (try simp at hb) <;> try (exfalso; omega)) | (refine tk 1 ?_)); all_goals (refine tk 5 ?_; (first | (refine te (fun hb => ?_) (fun hb => ?_) <;> (try simp at hb) <;> try (exfalso; omega)) | (refine tk 1 ?_)); all_goals (refine tk 7 ?_; (first | (refine te (fun hb => ?_) (fun hb => ?_) <;> (try simp at hb) <;> try (exfalso; omega)) | (refine tk 1 ?_)); all_goals (refine tk 5 ?_; (first | (refine fg en157 ?_; refine SF.then (sf157 ..) ?_) | (refine tk 1 ?_)); refine tk 1 ?_; refine dn ?_))))
      | refine ru ?_
      | (refine awp_if rfl (fun hb => ?_) (fun hb => ?_) <;> (try simp at hb) <;> try (exfalso; omega))
      | fail
    have e : nameI l i = false := by simp [nameI, List.getElem?_eq_none hge]
    exact ⟨Gr.refl _, .tuple [.str [], .bool (nameI l i)], by simp [e], _, rfl, by simp⟩
theorem sf170 {l : List Tok} {own : Own} {x : Int} {H : Hp} (hl : TokOKs l) (hx : 0 ≤ x) (hx2 : x ≤ 2000000) : SF Tryz.prog W0 170 [.sl 4 (toks l) own, .int .i64 x] H fun r H' => H' = H ∧ ∃ s : Str, r = .tuple [.str s, .bool (longI l x)] ∧ s.length ≤ 67108863 := by
  refine SF.pureLe (sf_start [4, 5] 35 Tryz.func170 rfl rfl rfl (by decide) (by simp) ?_)
  obtain ⟨i, rfl⟩ := Int.eq_ofNat_of_zero_le hx
  have hln := hl.1
  rcases Nat.lt_or_ge i l.length with hlt | hge
  · have htx := hl.2 l[i] (List.getElem_mem hlt)
    repeat' first
      | refine aSq ?_ | refine aRt ?_ | refine aSk ?_ | refine tN ?_ | refine tR ?_
      | (refine rg 1 ?_; refine tk 2 ?_; (first | (refine te (fun hb => ?_) (fun hb => ?_) <;> (try simp at hb) <;> try (exfalso; omega)) | (refine tk 1 ?_)); all_goals (refine tk 5 ?_; (first | (refine te (fun hb => ?_) (fun hb => ?_) <;> (try simp at hb) <;> try (exfalso; omega)) | (refine tk 1 ?_)); all_goals (refine tk 7 ?_; (first | (refine te (fun hb => ?_) (fun hb => ?_) <;> (try simp at hb) <;> try (exfalso; omega)) | (refine tk 1 ?_)); all_goals (refine tk 5 ?_; (first | (refine fg en158 ?_; refine SF.then (sf158 (by omega)) ?_) | (refine tk 1 ?_)); refine tk 1 ?_; refine dn ?_))))
      | refine ru ?_
      | (refine awp_if rfl (fun hb => ?_) (fun hb => ?_) <;> (try simp at hb) <;> try (exfalso; omega))
      | fail
    all_goals
      (have e0 : l[i]? = some l[i] := List.getElem?_eq_getElem hlt
       first
         | (have e : longI l i = true := by simp [longI, e0, *]
            exact ⟨Gr.refl _, .tuple [.str l[i].text, .bool (longI l i)], by simp [e], _, rfl, htx⟩)
         | (have e : longI l i = false := by simp [longI, e0, *]
            exact ⟨Gr.refl _, .tuple [.str [], .bool (longI l i)], by simp [e], _, rfl, by simp⟩))
  · repeat' first
      | refine aSq ?_ | refine aRt ?_ | refine aSk ?_ | refine tN ?_
      | (refine rg 1 ?_; refine tk 2 ?_; (first | (refine te (fun hb => ?_) (fun hb => ?_) <;> (try simp at hb) <;> try (exfalso; omega)) | (refine tk 1 ?_)); all_goals (refine tk 5 ?_; (first | (refine te (fun hb => ?_) (fun hb => ?_) <;> (try simp at hb) <;> try (exfalso; omega)) | (refine tk 1 ?_)); all_goals (refine tk 7 ?_; (first | (refine te (fun hb => ?_) (fun hb => ?_) <;> (try simp at hb) <;> try (exfalso; omega)) | (refine tk 1 ?_)); all_goals (refine tk 5 ?_; (first | (refine fg en158 ?_; refine SF.then (sf158 ..) ?_) | (refine tk 1 ?_)); refine tk 1 ?_; refine dn ?_))))
      | refine ru ?_
      | (refine awp_if rfl (fun hb => ?_) (fun hb => ?_) <;> (try simp at hb) <;> try (exfalso; omega))
      | fail
    have e : longI l i = false := by simp [longI, List.getElem?_eq_none hge]
    exact ⟨Gr.refl _, .tuple [.str [], .bool (longI l i)], by simp [e], _, rfl, by simp⟩
end Go.Av
namespace Go.Av
open Go.Proofs
variable {W0 : World}
set_option maxRecDepth 10000
set_option maxHeartbeats 4000000
def ResT (l : List Tok) (x : Int) (r : AV) : Prop := ∃ (t : Tr) (y e : Int), r = .tuple [t.av, .int .i64 y, .int .i64 e] ∧ x ≤ y ∧ y ≤ l.length ∧ t.neat ∧ (t.cnt : Int) ≤ 2 * (y - x) ∧ (e = 0 → (t.cnt : Int) + 1 ≤ 2 * (y - x))
def ResL (l : List Tok) (x : Int) (r : AV) : Prop := ∃ (ts : List Tr) (y e : Int), r = .tuple [.sl 1 (Tr.avs ts) .shut, .int .i64 y, .int .i64 e] ∧ x ≤ y ∧ y ≤ l.length ∧ Tr.neats ts ∧ (ts.length : Int) ≤ y - x ∧ (Tr.cnts ts : Int) ≤ 2 * (y - x)
def PT (W0 : World) (f : FuncId) (l : List Tok) (N : Int) : Prop := ∀ (own : Own) (x : Int) (H : Hp), 0 ≤ x → x ≤ l.length → (l.length : Int) - x ≤ N → SF Tryz.prog W0 f [.sl 4 (toks l) own, .int .i64 x] H fun r H' => H' = H ∧ ResT l x r
def PL (W0 : World) (f : FuncId) (l : List Tok) (N : Int) : Prop := ∀ (own : Own) (x : Int) (H : Hp), 0 ≤ x → x ≤ l.length → (l.length : Int) - x ≤ N → SF Tryz.prog W0 f [.sl 4 (toks l) own, .int .i64 x] H fun r H' => H' = H ∧ ResL l x r
theorem resT {l : List Tok} {x : Int} (t : Tr) (y e : Int) (h1 : x ≤ y) (h2 : y ≤ l.length) (h3 : t.neat) (h4 : (t.cnt : Int) ≤ 2 * (y - x)) (h5 : e = 0 → (t.cnt : Int) + 1 ≤ 2 * (y - x)) : ResT l x (.tuple [t.av, .int .i64 y, .int .i64 e]) := ⟨t, y, e, rfl, h1, h2, h3, h4, h5⟩
theorem none_neat : Tr.none.neat := trivial
theorem neat2 {k n : Int} {t u : Tr} (h1 : t.neat) (h2 : u.neat) : (Tr.node k n [] [] [t, u]).neat := ⟨by simp, by simp, by simp, h1, h2, trivial⟩
theorem resN {l : List Tok} {x y e : Int} (h1 : x ≤ y) (h2 : y ≤ l.length) (h3 : e = 0 → 1 ≤ 2 * (y - x)) : ResT l x (.tuple [.nilp, .int .i64 y, .int .i64 e]) := resT .none y e h1 h2 trivial (by simp only [Tr.cnt]; omega) (by simp only [Tr.cnt]; omega)
theorem neatN {k n : Int} {a : Str} {l : List Tr} (ha : a.length ≤ 67108863) (hl : l.length ≤ 67108864) (h : Tr.neats l) : (Tr.node k n a [] l).neat := ⟨ha, by simp, hl, h⟩
theorem sf32n {kind : Int} {name : Str} {H : Hp} : SF Tryz.prog W0 32 [.int .i64 kind, .str name, .slnil] H fun r H' => H' = H ∧ r = (Tr.node kind 0 name [] []).av :=
  SF.args (args' := [.int .i64 kind, .str name, .sl 1 (Tr.avs []) .shut]) (.cons (.refl _) (.cons (.refl _) (.cons (.nilShut 1) .nil))) sf32
theorem p210 {l : List Tok} {N : Int} (hl : TokOKs l) (P : PT W0 216 l N) (T : PT W0 210 l (N - 1)) : PT W0 210 l N := by
  intro own x H hx hx2 hN
  have hln := hl.1
  refine SF.pureLe (sf_start [4, 5, 6] 42 Tryz.func210 rfl rfl rfl (by decide) (by simp) ?_)
  repeat' first
    | refine aSq ?_ | refine aRt ?_ | refine aSk ?_ | refine tN ?_ | refine tR ?_
    | (refine rg 1 ?_; refine tk 2 ?_; refine fc en216 ?_; refine (P own _ _ hx hx2 hN).mono ?_; rintro r H1 ⟨rfl, t1, y1, e1, rfl, hy1, hy1l, hn1, hc1, hd1⟩; refine tk 7 ?_; refine dn ?_)
    | (refine rg 2 ?_; refine tk 2 ?_; (first | (refine te (fun hb => ?_) (fun hb => ?_) <;> (try simp at hb) <;> (try (have hlt := key_lt hb)) <;> (try (exfalso; omega))) | (refine tk 1 ?_)); all_goals (refine tk 2 ?_; (first | (refine fg en138 ?_; refine SF.then (sfk (by omega)) ?_) | (refine tk 1 ?_)); refine tk 2 ?_; refine dn ?_))
    | (refine rg 4 ?_; refine tk 3 ?_; refine fc en210 ?_; refine (T own _ _ (by omega) (by omega) (by omega)).mono ?_; rintro r H1 ⟨rfl, t2, y2, e2, rfl, hy2, hy2l, hn2, hc2, hd2⟩; refine tk 7 ?_; refine dn ?_)
    | (refine rg 5 ?_; refine tk 3 ?_; refine fc en32 ?_; refine SF.then (sf32 (l := [t1, t2])) ?_; refine tk 5 ?_; refine dn ?_)
    | refine ru ?_
    | (refine awp_if rfl (fun hb => ?_) (fun hb => ?_) <;> (try simp at hb) <;> (try (have hlt := key_lt hb)) <;> (try (exfalso; omega)))
    | fail
  · exact ⟨Gr.refl _, _, by simp, resT t1 y1 e1 hy1 hy1l hn1 hc1 hd1⟩
  · exact ⟨Gr.refl _, _, by simp, resT t1 y1 e1 hy1 hy1l hn1 hc1 hd1⟩
  · exact ⟨Gr.refl _, _, by simp, resT (.node 5 0 [] [] [t1, t2]) y2 e2 (by omega) hy2l (neat2 hn1 hn2) (by simp only [Tr.cnt, Tr.cnts]; omega) (by simp only [Tr.cnt, Tr.cnts]; omega)⟩
theorem p216 {l : List Tok} {N : Int} (hl : TokOKs l) (P : PT W0 225 l N) (T : PT W0 216 l (N - 1)) : PT W0 216 l N := by
  intro own x H hx hx2 hN
  have hln := hl.1
  refine SF.pureLe (sf_start [4, 5, 6] 42 Tryz.func216 rfl rfl rfl (by decide) (by simp) ?_)
  repeat' first
    | refine aSq ?_ | refine aRt ?_ | refine aSk ?_ | refine tN ?_ | refine tR ?_
    | (refine rg 1 ?_; refine tk 2 ?_; refine fc en225 ?_; refine (P own _ _ hx hx2 hN).mono ?_; rintro r H1 ⟨rfl, t1, y1, e1, rfl, hy1, hy1l, hn1, hc1, hd1⟩; refine tk 7 ?_; refine dn ?_)
    | (refine rg 2 ?_; refine tk 2 ?_; (first | (refine te (fun hb => ?_) (fun hb => ?_) <;> (try simp at hb) <;> (try (have hlt := key_lt hb)) <;> (try (exfalso; omega))) | (refine tk 1 ?_)); all_goals (refine tk 2 ?_; (first | (refine fg en138 ?_; refine SF.then (sfk (by omega)) ?_) | (refine tk 1 ?_)); refine tk 2 ?_; refine dn ?_))
    | (refine rg 4 ?_; refine tk 3 ?_; refine fc en216 ?_; refine (T own _ _ (by omega) (by omega) (by omega)).mono ?_; rintro r H1 ⟨rfl, t2, y2, e2, rfl, hy2, hy2l, hn2, hc2, hd2⟩; refine tk 7 ?_; refine dn ?_)
    | (refine rg 5 ?_; refine tk 3 ?_; refine fc en32 ?_; refine SF.then (sf32 (l := [t1, t2])) ?_; refine tk 5 ?_; refine dn ?_)
    | refine ru ?_
    | (refine awp_if rfl (fun hb => ?_) (fun hb => ?_) <;> (try simp at hb) <;> (try (have hlt := key_lt hb)) <;> (try (exfalso; omega)))
    | fail
  · exact ⟨Gr.refl _, _, by simp, resT t1 y1 e1 hy1 hy1l hn1 hc1 hd1⟩
  · exact ⟨Gr.refl _, _, by simp, resT t1 y1 e1 hy1 hy1l hn1 hc1 hd1⟩
  · exact ⟨Gr.refl _, _, by simp, resT (.node 6 0 [] [] [t1, t2]) y2 e2 (by omega) hy2l (neat2 hn1 hn2) (by simp only [Tr.cnt, Tr.cnts]; omega) (by simp only [Tr.cnt, Tr.cnts]; omega)⟩
theorem p225 {l : List Tok} {N : Int} (hl : TokOKs l) (T : PT W0 210 l (N - 1)) (C : PL W0 194 l (N - 1)) : PT W0 225 l N := by
  intro own x H hx hx2 hN
  have hln := hl.1
  refine SF.pureLe (sf_start [4, 5, 6] 113 Tryz.func225 rfl rfl rfl (by decide) (by simp) ?_)
  repeat' first
    | refine aSq ?_ | refine aRt ?_ | refine aSk ?_ | refine tN ?_ | refine tR ?_
    | (refine rg 1 ?_; refine tk 2 ?_; refine fc en170 ?_; refine (sf170 hl hx (by omega)).mono ?_; rintro r H1 ⟨rfl, s1, rfl, hs1⟩; refine tk 5 ?_; refine dn ?_)
    | (refine rg 3 ?_; refine tk 1 ?_; refine fc en32 ?_; (first | refine SF.then sf32n ?_ | refine SF.then (sf32 (l := ts)) ?_); refine tk 5 ?_; refine dn ?_)
    | (refine rg 4 ?_; refine tk 2 ?_; refine fc en138 ?_; refine SF.then (sfk (by omega)) ?_; refine dn ?_)
    | (refine rg 5 ?_; refine fc en32 ?_; (first | refine SF.then sf32n ?_ | refine SF.then (sf32 (l := ts)) ?_); refine tk 5 ?_; refine dn ?_)
    | (refine rg 6 ?_; refine tk 2 ?_; refine fc en138 ?_; refine SF.then (sfk (by omega)) ?_; refine dn ?_)
    | (refine rg 7 ?_; refine fc en32 ?_; (first | refine SF.then sf32n ?_ | refine SF.then (sf32 (l := ts)) ?_); refine tk 5 ?_; refine dn ?_)
    | (refine rg 8 ?_; refine tk 2 ?_; refine fc en138 ?_; refine SF.then (sfk (by omega)) ?_; refine dn ?_)
    | (refine rg 9 ?_; refine fc en32 ?_; (first | refine SF.then sf32n ?_ | refine SF.then (sf32 (l := ts)) ?_); refine tk 5 ?_; refine dn ?_)
    | (refine rg 10 ?_; refine tk 2 ?_; refine fc en138 ?_; refine SF.then (sfk (by omega)) ?_; refine dn ?_)
    | (refine rg 11 ?_; refine tk 3 ?_; refine fc en210 ?_; refine (T own _ _ (by omega) (by omega) (by omega)).mono ?_; rintro r H1 ⟨rfl, t2, y2, e2, rfl, hy2, hy2l, hn2, hc2, hd2⟩; refine tk 7 ?_; refine dn ?_)
    | (refine rg 14 ?_; refine tk 2 ?_; refine fc en138 ?_; refine SF.then (sfk (by omega)) ?_; refine tk 1 ?_; refine dn ?_)
    | (refine rg 17 ?_; refine tk 2 ?_; refine fc en138 ?_; refine SF.then (sfk (by omega)) ?_; refine tk 1 ?_; refine dn ?_)
    | (refine rg 19 ?_; refine tk 3 ?_; refine fc en169 ?_; refine (sf169 hl (x := x + 1) (by omega) (by omega)).mono ?_; rintro r H1 ⟨rfl, s2, rfl, hs2⟩; refine tk 5 ?_; refine dn ?_)
    | (refine rg 22 ?_; refine tk 3 ?_; refine fc en138 ?_; refine SF.then (sfk (by omega)) ?_; refine tk 1 ?_; refine dn ?_)
    | (refine rg 24 ?_; refine tk 3 ?_; refine fc en194 ?_; refine (C own _ _ (by omega) (by omega) (by omega)).mono ?_; rintro r H1 ⟨rfl, ts, y3, e3, rfl, hy3, hy3l, hn3, hk3, hc3⟩; refine tk 7 ?_; refine dn ?_)
    | (refine rg 27 ?_; refine tk 2 ?_; refine fc en138 ?_; refine SF.then (sfk (by omega)) ?_; refine tk 1 ?_; refine dn ?_)
    | (refine rg 29 ?_; refine tk 2 ?_; refine fc en32 ?_; (first | refine SF.then sf32n ?_ | refine SF.then (sf32 (l := ts)) ?_); refine tk 5 ?_; refine dn ?_)
    | refine ru ?_
    | (refine awp_if rfl (fun hb => ?_) (fun hb => ?_) <;> (try simp at hb) <;> (try (first | have hlt := key_lt hb | have hlt := name_lt hb | have hlt := long_lt hb)) <;> (try (exfalso; omega)))
    | fail
  all_goals simp [retQ]
  all_goals first
    | exact ⟨_, .refl _, resN (by omega) (by omega) (by omega)⟩
    | exact ⟨_, .refl _, resT _ _ _ (by omega) (by omega) (by first | assumption | exact neatN (by simp) (by simp) trivial | exact neatN (by omega) (by simp) trivial | exact neatN hs2 (by omega) hn3) (by first | omega | (simp only [Tr.cnt, Tr.cnts]; omega)) (by first | omega | (simp only [Tr.cnt, Tr.cnts]; omega))⟩
end Go.Av
namespace Go.Av
open Go.Proofs
variable {W0 : World}
set_option maxRecDepth 10000
set_option maxHeartbeats 4000000
theorem App.elem {T : Tab} {H0 H : Hp} {sz : Nat} {es : List (List AV)} {v : AV} (h : App H0 H sz es v) (t : TypeId) {i : Nat} (hi : i < es.length) (own : Own) : elemA T t v (.int .i64 i) = elemA T t (.sl sz es own) (.int .i64 i) := by
  rcases h.is with ⟨rfl, rfl⟩ | rfl | ⟨k, _, rfl, _⟩
  · simp at hi
  all_goals
    (unfold elemA
     cases (T t).map (·.kind) with
     | none => rfl
     | some k => cases k <;> rfl)
def Cons8 (ts : List Tr) : Prop := ∀ t ∈ ts, ∃ s u, t = .node 8 0 s [] [u]
theorem neats_append : ∀ {a b : List Tr}, Tr.neats a → Tr.neats b → Tr.neats (a ++ b)
  | [], _, _, h => h
  | _ :: _, _, h, k => ⟨h.1, neats_append h.2 k⟩
theorem cnts_append : ∀ a b : List Tr, Tr.cnts (a ++ b) = Tr.cnts a + Tr.cnts b
  | [], _ => by simp [Tr.cnts]
  | t :: a, b => by simp only [List.cons_append, Tr.cnts, cnts_append a b]; omega
theorem p194 {l : List Tok} {N : Int} (hl : TokOKs l) (T : PT W0 210 l (N - 1)) : PL W0 194 l N := by
  intro own x H hx hx2 hN
  have hln := hl.1
  refine SF.pureLe (sf_start [4, 5, 6] 73 Tryz.func194 rfl rfl rfl (by decide) (by simp) ?_)
  repeat' first
    | refine aSq ?_ | refine aBl ?_
    | refine ru ?_
    | fail
  refine awp_loop_inv (fun q st => ∃ (ts : List Tr) (v : AV) (Hc : Hp) (z : Int), q = ((l.length : Int) - z).toNat ∧ x ≤ z ∧ z ≤ l.length ∧ Tr.neats ts ∧ Cons8 ts ∧ (ts.length : Int) ≤ z - x ∧ (Tr.cnts ts : Int) ≤ 2 * (z - x) ∧ Gr H Hc ∧ App H Hc 1 (Tr.avs ts) v ∧
    Sub st ⟨73, [(0, .sl 4 (toks l) own), (1, .int .i64 z), (7, v)], Hc⟩) ((l.length : Int) - x).toNat
    ⟨[], .slnil, H, x, rfl, by omega, hx2, trivial, (by intro t ht; simp at ht), by simp, by simp [Tr.cnts], Gr.refl _, App.slnil _ _ _, rfl, rfl, only_cons (by simp) (only_cons (by simp) (only_cons (by simp) only_nil))⟩ ?_
  rintro q st ⟨ts, v, Hc, z, rfl, hz, hz2, hne, hc8, htl, htc, hg, a1, hs2⟩
  refine awp_sub hs2 ?_
  clear hs2 st
  repeat' first
    | refine aSq ?_ | refine aRt ?_ | refine aSk ?_ | refine aBl ?_ | refine tN ?_ | refine tR ?_ | refine iR ?_
    | (refine rg 2 ?_; refine tk 2 ?_; refine fc en169 ?_; refine (sf169 hl (x := z) (by omega) (by omega)).mono ?_; rintro r H1 ⟨rfl, s1, rfl, hs1⟩; refine tk 5 ?_; refine dn ?_)
    | refine ru ?_
    | (refine awp_if rfl (fun hb => ?_) (fun hb => ?_) <;> (try simp at hb) <;> (try (first | have hlt := key_lt hb | have hlt := name_lt hb)) <;> (try (exfalso; omega)))
    | fail
  · exact ⟨hg, _, by simp; exact .tuple (.cons (.nilShut 1) (.cons (.refl _) (.cons (.refl _) .nil))), [], z, 6, rfl, hz, hz2, trivial, by simp; omega, by simp [Tr.cnts]; omega⟩
  refine awp_loop_inv (fun q st => ∃ j : Nat, q = ts.length - j ∧ j ≤ ts.length ∧ Sub st ⟨73, [(0, .sl 4 (toks l) own), (1, .int .i64 z), (7, v), (8, .str s1), (10, .int .i64 j)], H1⟩) ts.length
    ⟨0, by simp, by simp, rfl, rfl, only_cons (by simp) (only_cons (by simp) (only_cons (by simp) (only_cons (by simp) (only_cons (by simp) only_nil))))⟩ ?_
  rintro q st ⟨j, rfl, hj, hs2⟩
  refine awp_sub hs2 ?_
  clear hs2 st
  have hvl : lenA tab 41 v = some (.int .i64 ts.length) := by rw [a1.len tab41]; simp
  rcases Nat.lt_or_ge j ts.length with hlt2 | hge2
  · obtain ⟨s0, u0, e0⟩ := hc8 _ (List.getElem_mem hlt2)
    have hel : elemA tab 41 v (.int .i64 j) = some (.ptr [(Tr.node 8 0 s0 [] [u0]).av]) := by
      rw [a1.elem 41 (by simpa using hlt2) .shut]
      simp [hlt2, e0]
    simp only [Tr.av] at hel
    repeat' first
      | refine aSq ?_ | refine aRt ?_ | refine aSk ?_ | refine aBl ?_ | refine tN ?_ | refine tR ?_ | refine iR ?_
      | (refine ru ?_ (by simp (disch := omega) [hvl, hel, -elemA]; with_reducible rfl))
      | (refine awp_if rfl (fun hb => ?_) (fun hb => ?_) <;> (try simp at hb) <;> try (exfalso; omega))
      | fail
    · exact ⟨hg, _, by simp; exact .tuple (.cons (.nilShut 1) (.cons (.refl _) (.cons (.refl _) .nil))), [], z, 9, rfl, by omega, by omega, trivial, by simp; omega, by simp [Tr.cnts]; omega⟩
    · exact ⟨ts.length - (j + 1), by omega, j + 1, rfl, by omega, rfl, rfl, only_cons (by simp) (only_cons (by simp) (only_cons (by simp) (only_cons (by simp) (only_cons (by simp (disch := omega)) only_nil))))⟩
  · repeat' first
      | refine aSq ?_ | refine aRt ?_ | refine aSk ?_ | refine aEx ?_ | refine tN ?_ | refine tR ?_ | refine iR ?_
      | (refine rg 10 ?_; refine tk 3 ?_ (by simp (disch := omega) [hvl]; with_reducible rfl); refine fc en138 ?_; refine SF.then (sfk (by omega)) ?_; refine tk 1 ?_ (by simp (disch := omega) [hvl]; with_reducible rfl); refine dn ?_)
      | (refine rg 12 ?_; refine tk 3 ?_ (by simp (disch := omega) [hvl]; with_reducible rfl); refine fc en210 ?_; refine (T own _ _ (by omega) (by omega) (by omega)).mono ?_; rintro r H2 ⟨rfl, t2, y2, e2, rfl, hy2, hy2l, hn2, hc2, hd2⟩; refine tk 7 ?_ (by simp (disch := omega) [hvl]; with_reducible rfl); refine dn ?_)
      | (refine rg 15 ?_; refine aops_take 4 (mu := mu0) tab_ok (by simp; rfl) ?_; refine fc en32 ?_; refine SF.then (sf32 (l := [t2])) ?_; refine aops_take 1 (mu := mu0) tab_ok (by simp; rfl) ?_; obtain ⟨v', H', e3, a2, g2, o2⟩ := a1.append (T := tab) hg (x := .sl 1 [[(Tr.node 8 0 s1 [] [t2]).av]] .capped) (fs := [[(Tr.node 8 0 s1 [] [t2]).av]]) (t := 41) (e := 22) tab41 tab22 rfl (by decide) (by simp) (by simp) (by simp; omega); refine aops_take 2 (mu := mu0) tab_ok (by simp [e3]; rfl) ?_; refine dn ?_)
      | (refine rg 16 ?_; refine tk 2 ?_ (by simp (disch := omega) [hvl]; with_reducible rfl); refine fc en138 ?_; refine SF.then (sfk (by omega)) ?_; refine tk 1 ?_ (by simp (disch := omega) [hvl]; with_reducible rfl); refine dn ?_)
      | (refine ru ?_ (by simp (disch := omega) [hvl]; with_reducible rfl))
      | (refine awp_if rfl (fun hb => ?_) (fun hb => ?_) <;> (try simp at hb) <;> (try (first | have hlt := key_lt hb | have hlt := name_lt hb)) <;> (try (exfalso; omega)))
      | refine inN ?_
    · exact ⟨hg, _, by simp; exact .tuple (.cons (.nilShut 1) (.cons (.refl _) (.cons (.refl _) .nil))), [], z + 1, 6, rfl, by omega, by omega, trivial, by simp; omega, by simp [Tr.cnts]; omega⟩
    · exact ⟨hg, _, by simp; exact .tuple (.cons (.nilShut 1) (.cons (.refl _) (.cons (.refl _) .nil))), [], y2, e2, rfl, by omega, by omega, trivial, by simp; omega, by simp [Tr.cnts]; omega⟩
    all_goals
      (have hn8 : (Tr.node 8 0 s1 [] [t2]).neat := neatN hs1 (by simp) ⟨hn2, trivial⟩
       have hna := neats_append hne (show Tr.neats [Tr.node 8 0 s1 [] [t2]] from ⟨hn8, trivial⟩)
       have hca : (Tr.cnts (ts ++ [Tr.node 8 0 s1 [] [t2]]) : Int) = Tr.cnts ts + (1 + t2.cnt) := by rw [cnts_append]; simp [Tr.cnts, Tr.cnt]
       have e5 : Tr.avs ts ++ [[(Tr.node 8 0 s1 [] [t2]).av]] = Tr.avs (ts ++ [Tr.node 8 0 s1 [] [t2]]) := by rw [avs_append]; rfl
       rw [e5] at a2
       have h8 : Cons8 (ts ++ [Tr.node 8 0 s1 [] [t2]]) := by
         intro t ht
         rcases List.mem_append.1 ht with h | h
         · exact hc8 t h
         · simp only [List.mem_singleton] at h
           exact ⟨s1, t2, h⟩)
    · have q := a2.le'
      simp only [Tr.cln_avs] at q
      exact ⟨g2, _, by simp; exact .tuple (.cons q (.cons (.refl _) (.cons (.refl _) .nil))), ts ++ [Tr.node 8 0 s1 [] [t2]], y2, 0, rfl, by omega, by omega, hna, by simp; omega, by omega⟩
    · refine ⟨((l.length : Int) - (y2 + 1)).toNat, by omega, ts ++ [Tr.node 8 0 s1 [] [t2]], v', H', y2 + 1, rfl, by omega, by omega, hna, h8, by simp; omega, by omega, g2, a2, rfl, rfl, only_cons (by simp) (only_cons (by simp (disch := omega)) (only_cons (by simp) only_nil))⟩
theorem p_types {l : List Tok} (hl : TokOKs l) : ∀ (N : Nat), PT W0 225 l (N - 1) ∧ PT W0 216 l (N - 1) ∧ PT W0 210 l (N - 1) ∧ PL W0 194 l (N - 1)
  | 0 => by
    refine ⟨?_, ?_, ?_, ?_⟩
    all_goals
      (intro own x H h1 h2 h3
       simp at h3
       omega)
  | N + 1 => by
    have ih := p_types hl N
    have e : ((N + 1 : Nat) : Int) - 1 = N := by omega
    rw [e]
    have a := p225 (N := N) hl ih.2.2.1 ih.2.2.2
    have b := p216 hl a ih.2.1
    have c := p210 hl b ih.2.2.1
    exact ⟨a, b, c, p194 hl ih.2.2.1⟩
def PTA (W0 : World) (f : FuncId) (l : List Tok) : Prop := ∀ N, PT W0 f l N
def PLA (W0 : World) (f : FuncId) (l : List Tok) : Prop := ∀ N, PL W0 f l N
theorem PT.all {f : FuncId} {l : List Tok} (h : ∀ N : Nat, PT W0 f l (N - 1)) : PTA W0 f l := fun N own x H h1 h2 h3 => h (l.length + 1) own x H h1 h2 (by omega)
theorem PL.all {f : FuncId} {l : List Tok} (h : ∀ N : Nat, PL W0 f l (N - 1)) : PLA W0 f l := fun N own x H h1 h2 h3 => h (l.length + 1) own x H h1 h2 (by omega)
theorem p210a {l : List Tok} (hl : TokOKs l) : PTA W0 210 l := PT.all fun N => (p_types hl N).2.2.1
theorem p194a {l : List Tok} (hl : TokOKs l) : PLA W0 194 l := PL.all fun N => (p_types hl N).2.2.2
theorem p195 {l : List Tok} (hl : TokOKs l) : PTA W0 195 l := by
  intro N own x H hx hx2 hN
  have hln := hl.1
  refine SF.pureLe (sf_start [4, 5, 6] 31 Tryz.func195 rfl rfl rfl (by decide) (by simp) ?_)
  repeat' first
    | refine aSq ?_ | refine aRt ?_ | refine aSk ?_ | refine tN ?_ | refine tR ?_
    | (refine rg 1 ?_; refine tk 2 ?_; (first | (refine te (fun hb => ?_) (fun hb => ?_) <;> (try simp at hb) <;> try (exfalso; omega)) | (refine tk 1 ?_)); all_goals (refine tk 5 ?_; refine dn ?_))
    | (refine rg 3 ?_; refine tk 2 ?_; refine fc en210 ?_; refine (p210a hl N own _ _ (by omega) (by omega) (by omega)).mono ?_; rintro r H1 ⟨rfl, t2, y2, e2, rfl, hy2, hy2l, hn2, hc2, hd2⟩; refine tk 7 ?_; refine dn ?_)
    | refine ru ?_
    | (refine awp_if rfl (fun hb => ?_) (fun hb => ?_) <;> (try simp at hb) <;> try (exfalso; omega))
    | fail
  all_goals simp [retQ]
  all_goals first
    | exact ⟨_, .refl _, resN (by omega) (by omega) (by omega)⟩
    | exact ⟨_, .refl _, resT _ _ _ (by omega) (by omega) (by assumption) (by omega) (by omega)⟩
theorem p171 {l : List Tok} (hl : TokOKs l) : PLA W0 171 l := by
  intro N own x H hx hx2 hN
  have hln := hl.1
  refine SF.pureLe (sf_start [4, 5, 6] 21 Tryz.func171 rfl rfl rfl (by decide) (by simp) ?_)
  repeat' first
    | refine aSq ?_ | refine aRt ?_ | refine aSk ?_ | refine tN ?_
    | (refine rg 1 ?_; refine tk 2 ?_; (first | (refine te (fun hb => ?_) (fun hb => ?_) <;> (try simp at hb) <;> try (exfalso; omega)) | (refine tk 1 ?_)); all_goals (refine tk 5 ?_; refine dn ?_))
    | (refine rg 3 ?_; refine tk 2 ?_; refine fc en194 ?_; refine (p194a hl N own _ _ (by omega) (by omega) (by omega)).mono ?_; rintro r H1 ⟨rfl, ts, y2, e2, rfl, hy2, hy2l, hn2, hk2, hc2⟩; refine tk 6 ?_; refine dn ?_)
    | refine ru ?_
    | (refine awp_if rfl (fun hb => ?_) (fun hb => ?_) <;> (try simp at hb) <;> try (exfalso; omega))
    | fail
  exact ⟨Gr.refl _, _, by simp, ts, y2, e2, rfl, hy2, hy2l, hn2, hk2, hc2⟩
end Go.Av
