/-
  Go read by value: lemmas (part 24): F7, F8.
-/
import Derived.Test.YtdeocbficanfaaaGreatDoorZ23
set_option linter.unusedVariables false
set_option linter.unusedSimpArgs false
set_option linter.unusedSectionVars false
namespace Go.Av
open Go.Proofs
variable {W0 : World}
set_option maxRecDepth 10000
set_option maxHeartbeats 4000000
def ModS (W0 : World) (U : List Str) (N : Nat) : Prop := ∀ (t : Tr) (s : List Bd) (p : Path) (o1 o2 : Own) (H : Hp) (r : Nat) (w : Wk), t.cnt ≤ N → MdW t → SOK U s → InU U t → s.length + (U.length + 1) * t.cnt ≤ 60000000 → p.length + N ≤ 10000 → w.L.length + t.cnt ≤ 60000000 → w.X.length + U.length * t.cnt ≤ 60000000 → WKo H r w →
  SF Tryz.prog W0 81 [.ref r 0, .sl 4 (bds s) o1, t.av, .sl 1 (ints p) o2] H fun x H' => x = .sl 6 (Hs.avs (modW N s t p w).2) .shut ∧ WKo H' r (modW N s t p w).1 ∧ Fr (· = r) H H'
def DeclS (W0 : World) (U : List Str) (N : Nat) : Prop := ∀ (t : Tr) (x : Stt) (p : Path) (o2 : Own) (H : Hp) (r rt : Nat) (w : Wk), t.cnt ≤ N → DcW t → SOK U x.S → HsOK U x.Out → InU U t → x.S.length + (U.length + 1) * t.cnt ≤ 60000000 → p.length + N ≤ 10000 → w.L.length + t.cnt ≤ 60000000 → w.X.length + U.length * t.cnt ≤ 60000000 → WKo H r w → STo H rt x → rt ≠ r →
  SF Tryz.prog W0 39 [.ref r 0, .ref rt 0, t.av, .sl 1 (ints p) o2] H fun y H' => y = .tuple [] ∧ WKo H' r (declW N x t p w).1 ∧ STo H' rt (declW N x t p w).2 ∧ Fr (fun j => j = r ∨ j = rt) H H'
def declF (N : Nat) (p : Path) (i : Nat) (k : Tr) (x : Wk × Stt) : Wk × Stt := declW N x.2 k (down p i) x.1
theorem modW_path (N : Nat) (s : List Bd) (n : Int) (a b : Str) (p : Path) (w : Wk) : modW (N + 1) s (.node 41 n a b []) p w = refer w s p [109] a := by simp [modW, Tr.kind, Tr.name]
theorem modW_app (N : Nat) (s : List Bd) (n : Int) (a b : Str) (m : Tr) (p : Path) (w : Wk) : modW (N + 1) s (.node 42 n a b [m]) p w = ((modW N s m (down p 0) (refer w s p [102] a).1).1, (refer w s p [102] a).2) := by simp [modW, Tr.kind, Tr.name, Tr.kid, Tr.kids]
theorem modW_seal (N : Nat) (s : List Bd) (n : Int) (a b : Str) (m g : Tr) (p : Path) (w : Wk) : modW (N + 1) s (.node 43 n a b [m, g]) p w = sigW N s g (down p 1) (modW N s m (down p 0) w).1 := by simp [modW, Tr.kind, Tr.kid, Tr.kids]
theorem modW_body (N : Nat) (s : List Bd) (n : Int) (a b : Str) (l : List Tr) (p : Path) (w : Wk) : modW (N + 1) s (.node 40 n a b l) p w =
    ({ (foldK (declF N p) 0 l (w, ⟨s, []⟩)).1 with X := (foldK (declF N p) 0 l (w, ⟨s, []⟩)).1.X ++ endsL (foldK (declF N p) 0 l (w, ⟨s, []⟩)).2.Out p }, (foldK (declF N p) 0 l (w, ⟨s, []⟩)).2.Out) := by simp [modW, Tr.kind, Tr.kids]; exact ⟨⟨rfl, rfl, rfl⟩, rfl⟩
theorem modS_step {U : List Str} {N : Nat} (hU : U.length ≤ 30000000) (ihm : ModS W0 U N) (ihd : DeclS W0 U N) : ModS W0 U (N + 1) := by
  intro t s p o1 o2 H r w hN ht hso hu hsl hpl hL hX hw
  have hU6 : U.length ≤ 60000000 := by omega
  have hlt := hw.lt
  have hc1 : t.cnt ≤ (U.length + 1) * t.cnt := Nat.le_mul_of_pos_left _ (by omega)
  cases ht with
  | @path n a b h =>
    rw [modW_path]
    simp only [Tr.cnt, Tr.cnts] at hN hsl hL hc1
    simp only [Tr.av]
    refine SF.cut (sf_start [8] 108 Tryz.func81 rfl rfl rfl (by decide) (by simp) ?_)
    repeat' first
      | refine aSq ?_ | refine aRt ?_ | refine aBl ?_ | refine tN ?_ | refine tR ?_ | refine iR ?_
      | (refine rg 3 ?_; refine tk 7 ?_; refine fc en84 ?_; refine (sf84 hU6 hso (by omega) (by omega) (by simp) h hw (by omega)).mono ?_; rintro x1 H1 ⟨rfl, hwb, hfb⟩; refine tk 1 ?_; refine dn ?_)
      | refine ru ?_
      | (refine awp_if rfl (fun hb => ?_) (fun hb => ?_) <;> (try simp at hb) <;> try (exfalso; omega))
      | fail
    exact gs_end hwb hlt (by simp [hfb.1]) (fun j _ hne => hfb.2 j hne)
  | @app n a b m h h1 =>
    rw [modW_app]
    have hug := hu.kids.head
    have hm : (U.length + 1) * m.cnt ≤ (U.length + 1) * (1 + (m.cnt + 0)) := mul_le _ (by omega)
    have hm2 : U.length * m.cnt ≤ U.length * (1 + (m.cnt + 0)) := mul_le _ (by omega)
    have hr := refer_L w s p [102] a
    have hrx := hr.2
    simp only [Tr.cnt, Tr.cnts] at hN hsl hL hX hc1
    simp only [Tr.av]
    refine SF.cut (sf_start [8] 108 Tryz.func81 rfl rfl rfl (by decide) (by simp) ?_)
    repeat' first
      | refine aSq ?_ | refine aRt ?_ | refine aBl ?_ | refine tN ?_ | refine tR ?_ | refine iR ?_
      | (refine rg 5 ?_; refine tk 7 ?_ (by simp (disch := omega) [Tr.avs]; with_reducible rfl); refine fc en84 ?_; refine (sf84 hU6 hso (by omega) (by omega) (by simp) h hw (by omega)).mono ?_; rintro x1 H1 ⟨rfl, hwb, hfb⟩; refine tk 1 ?_ (by simp (disch := omega) [Tr.avs]; with_reducible rfl); refine dn ?_)
      | (refine dr 6 [(0, true), (1, true), (2, true), (3, true), (4, true), (5, true), (6, true), (7, true), (8, true), (9, false), (10, false)] [10] ?_; refine dh 5 ?_ (h := (by simp (disch := omega) [Tr.avs]; with_reducible rfl)); (first | (refine dh 1 ?_ (h := (by simp (disch := omega) [Tr.avs]; with_reducible rfl))) | (refine da 1 (fun _ => ?_) (h := (by simp (disch := omega) [Tr.avs]; with_reducible rfl)))); refine dh 1 ?_ (h := (by simp (disch := omega) [Tr.avs]; with_reducible rfl)); (first | (refine dh 1 ?_ (h := (by simp (disch := omega) [Tr.avs]; with_reducible rfl))) | (refine da 1 (fun _ => ?_) (h := (by simp (disch := omega) [Tr.avs]; with_reducible rfl)))); refine dh 1 ?_ (h := (by simp (disch := omega) [Tr.avs]; with_reducible rfl)); refine df en77 ?_; refine SF.then (sf77 (by omega)) ?_; refine ⟨.inr rfl, ?_⟩; refine df en81 ?_; refine (ihm m s (down p 0) o1 .shut H1 r _ (by omega) h1 hso hug (by omega) (by rw [down_len]; omega) (by have := hr.1; omega) (by rw [hrx]; omega) hwb).mono ?_; rintro x2 H2 ⟨rfl, hwc, hfc⟩; refine ⟨.inl rfl, ?_⟩; refine adr_nil ?_)
      | (refine ru ?_ (by simp (disch := omega) [Tr.avs]; with_reducible rfl))
      | (refine awp_if rfl (fun hb => ?_) (fun hb => ?_) <;> (try simp at hb) <;> try (exfalso; omega))
      | fail
    have hf := hfb.trans hfc
    exact gs_end hwc hlt (by simp [hf.1]) (fun j _ hne => hf.2 j hne)
  | @sealM n a b m g h1 h2 =>
    rw [modW_seal]
    have hum := hu.kids.head
    have hug := hu.kids.tail.head
    have hm : (U.length + 1) * m.cnt ≤ (U.length + 1) * (1 + (m.cnt + (g.cnt + 0))) := mul_le _ (by omega)
    have hm1 : (U.length + 1) * g.cnt ≤ (U.length + 1) * (1 + (m.cnt + (g.cnt + 0))) := mul_le _ (by omega)
    have hm2 : U.length * m.cnt ≤ U.length * (1 + (m.cnt + (g.cnt + 0))) := mul_le _ (by omega)
    obtain ⟨l1, q1⟩ := (mods_ok U N).1 s m (down p 0) w h1 hso hum (by rw [down_len]; omega)
    simp only [Tr.cnt, Tr.cnts] at hN hsl hL hX hc1
    simp only [Tr.av]
    refine SF.cut (sf_start [8] 108 Tryz.func81 rfl rfl rfl (by decide) (by simp) ?_)
    repeat' first
      | refine aSq ?_ | refine aRt ?_ | refine aBl ?_ | refine tN ?_ | refine tR ?_ | refine iR ?_
      | (refine dr 9 [(0, true), (1, true), (2, true), (3, true), (4, true), (5, true), (6, true), (7, true), (8, true), (9, false), (10, false)] [10] ?_; refine dh 5 ?_ (h := (by simp (disch := omega) [Tr.avs]; with_reducible rfl)); (first | (refine dh 1 ?_ (h := (by simp (disch := omega) [Tr.avs]; with_reducible rfl))) | (refine da 1 (fun _ => ?_) (h := (by simp (disch := omega) [Tr.avs]; with_reducible rfl)))); refine dh 1 ?_ (h := (by simp (disch := omega) [Tr.avs]; with_reducible rfl)); (first | (refine dh 1 ?_ (h := (by simp (disch := omega) [Tr.avs]; with_reducible rfl))) | (refine da 1 (fun _ => ?_) (h := (by simp (disch := omega) [Tr.avs]; with_reducible rfl)))); refine dh 1 ?_ (h := (by simp (disch := omega) [Tr.avs]; with_reducible rfl)); refine df en77 ?_; refine SF.then (sf77 (by omega)) ?_; refine ⟨.inr rfl, ?_⟩; refine df en81 ?_; refine (ihm m s (down p 0) o1 .shut H r w (by omega) h1 hso hum (by omega) (by rw [down_len]; omega) (by omega) (by omega) hw).mono ?_; rintro x1 H1 ⟨rfl, hwb, hfb⟩; refine ⟨.inl rfl, ?_⟩; refine adr_nil ?_)
      | (refine dr 10 [(0, true), (1, true), (2, true), (3, true), (4, true), (5, true), (6, true), (7, true), (8, true), (9, false), (10, false), (11, false)] [10, 11] ?_; refine dh 5 ?_ (h := (by simp (disch := omega) [Tr.avs]; with_reducible rfl)); (first | (refine dh 1 ?_ (h := (by simp (disch := omega) [Tr.avs]; with_reducible rfl))) | (refine da 1 (fun _ => ?_) (h := (by simp (disch := omega) [Tr.avs]; with_reducible rfl)))); refine dh 1 ?_ (h := (by simp (disch := omega) [Tr.avs]; with_reducible rfl)); (first | (refine dh 1 ?_ (h := (by simp (disch := omega) [Tr.avs]; with_reducible rfl))) | (refine da 1 (fun _ => ?_) (h := (by simp (disch := omega) [Tr.avs]; with_reducible rfl)))); refine dh 1 ?_ (h := (by simp (disch := omega) [Tr.avs]; with_reducible rfl)); refine df en77 ?_; refine SF.then (sf77 (by omega)) ?_; refine ⟨.inr rfl, ?_⟩; refine df en83 ?_; refine ((sigsS U hU N).1 g s (down p 1) o1 .shut H1 r _ (by omega) h2 hso hug (by omega) (by rw [down_len]; omega) (by have := l1.1; omega) hwb).mono ?_; rintro x2 H2 ⟨rfl, hwc, hfc⟩; refine ⟨.inl rfl, ?_⟩; refine dx ?_ (h := (by simp (disch := omega) [Tr.avs]; with_reducible rfl)))
      | (refine ru ?_ (by simp (disch := omega) [Tr.avs]; with_reducible rfl))
      | (refine awp_if rfl (fun hb => ?_) (fun hb => ?_) <;> (try simp at hb) <;> try (exfalso; omega))
      | fail
    have hf := hfb.trans hfc
    exact gs_end hwc hlt (by simp [hf.1]) (fun j _ hne => hf.2 j hne)
  | @body n a b l hl =>
    rw [modW_body]
    have hll := pos_len fun t ht => (hl t ht).pos
    have hul := hu.kids
    simp only [Tr.cnt] at hN hsl hL hX hc1
    have hme : (U.length + 1) * (1 + Tr.cnts l) = (U.length + 1) + (U.length + 1) * Tr.cnts l := by rw [Nat.mul_add, Nat.mul_one]
    have hme2 : U.length * (1 + Tr.cnts l) = U.length + U.length * Tr.cnts l := by rw [Nat.mul_add, Nat.mul_one]
    simp only [Tr.av]
    obtain ⟨fin, hfin⟩ : ∃ fin, foldK (declF N p) 0 l (w, ⟨s, []⟩) = fin := ⟨_, rfl⟩
    rw [hfin]
    refine SF.cut (sf_start [8] 108 Tryz.func81 rfl rfl rfl (by decide) (by simp) ?_)
    repeat' first
      | refine aSq ?_ | refine aSk ?_ | refine aBl ?_ | refine tN ?_
      | (refine rg 11 ?_; refine aops_take 4 (mu := mu5) tab_ok (by simp; with_reducible rfl) ?_; refine dn ?_)
      | refine ru ?_
      | (refine awp_if rfl (fun hb => ?_) (fun hb => ?_) <;> (try simp at hb) <;> try (exfalso; omega))
      | fail
    refine awp_objLe H.objs.length [.sl 4 (bds s) .shut, .sl 6 (Hs.avs []) .shut] (get_concat _ _) (by simp [Hs.avs]) ?_
    refine awp_loop_inv (fun q st => ∃ (i : Nat) (cur : Wk × Stt) (Hc : Hp), q = l.length - i ∧ i ≤ l.length ∧ foldK (declF N p) i (l.drop i) cur = fin ∧ LenX U w cur.1 (Tr.cnts (l.take i)) ∧ SttOK U ⟨s, []⟩ cur.2 (Tr.cnts (l.take i)) ∧ WKo Hc r cur.1 ∧ STo Hc H.objs.length cur.2 ∧
      Hc.objs.length = H.objs.length + 1 ∧ (∀ j, j < H.objs.length → j ≠ r → Hc.objs[j]? = H.objs[j]?) ∧
      Sub st ⟨108, [(0, .ref r 0), (2, .ptr [.int .i64 40, .int .i64 n, .str a, .str b, .sl 1 (Tr.avs l) .shut]), (3, .sl 1 (ints p) o2), (10, .ref H.objs.length 0), (11, .int .i64 i)], Hc⟩) l.length
      ⟨0, (w, ⟨s, []⟩), ⟨(H.objs ++ [AObj.cells [.sl 4 (bds s) o1, .slnil]]).set H.objs.length (sttO ⟨s, []⟩), H.hi⟩, by simp, by simp, hfin, .refl _ _ _, .refl hso .nil _, hw.keep (by simp only; rw [set_concat, List.getElem?_append_left hlt]) rfl, by simp [STo], by simp, fun j hj _ => by simp only; rw [set_concat, List.getElem?_append_left hj], sb⟩ ?_
    clear hfin hw
    rintro q st ⟨i, cur, Hc, rfl, hi, hfo, hlo, hst, hwc, hxc, hlc, hfc, hs2⟩
    refine awp_sub hs2 ?_
    clear hs2 st
    have hxc' : Hc.objs[H.objs.length]? = some (.cells [.sl 4 (bds cur.2.S) .shut, .sl 6 (Hs.avs cur.2.Out) .shut]) := hxc
    repeat' first
      | refine aSq ?_ | refine aRt ?_ | refine aSk ?_ | refine aEx ?_ | refine aBl ?_ | refine tN ?_
      | (refine dr 15 [(0, true), (1, true), (2, true), (3, true), (4, true), (5, true), (6, true), (7, true), (8, true), (9, true), (10, true), (11, false), (12, false)] [12] ?_; refine dh 5 ?_; (first | (refine dh 1 ?_) | (refine da 1 fun _ => ?_)); refine dh 2 ?_; (first | (refine dh 1 ?_) | (refine da 1 fun _ => ?_)); refine dh 2 ?_; refine df en77 ?_; refine SF.then (sf77 (by omega)) ?_; refine ⟨.inr rfl, ?_⟩; refine df en39 ?_; (have hlt : i < l.length := by assumption); (have q1 := Tr.cnts_take l i hlt); (have q2 := Tr.cnts_take_le l (i + 1)); (have q3 := Tr.cnts_le l i hlt); (have m1 : (U.length + 1) * Tr.cnts (l.take (i + 1)) = (U.length + 1) * Tr.cnts (l.take i) + (U.length + 1) * l[i].cnt := by rw [q1, Nat.mul_add]); (have m2 := mul_le (U.length + 1) q2); (have m3 : U.length * Tr.cnts (l.take (i + 1)) = U.length * Tr.cnts (l.take i) + U.length * l[i].cnt := by rw [q1, Nat.mul_add]); (have m4 := mul_le U.length q2); (have h0 := hst.len); (have h1 := hlo.1); (have h2 := hlo.2); (have q4 := (mods_ok U N).2 cur.2 l[i] (down p i) cur.1 (hl _ (List.getElem_mem hlt)) hst.s hst.o (hul.mem _ (List.getElem_mem hlt)) (by rw [down_len]; omega)); refine (ihd l[i] cur.2 (down p i) .shut Hc r H.objs.length cur.1 (by omega) (hl _ (List.getElem_mem hlt)) hst.s hst.o (hul.mem _ (List.getElem_mem hlt)) (by simp only at h0; omega) (by rw [down_len]; omega) (by omega) (by omega) hwc hxc (by omega)).mono ?_; rintro x1 H2 ⟨rfl, hwb, hxb, hfb⟩; refine ⟨.inl rfl, ?_⟩; refine adr_nil ?_)
      | (refine rg 16 ?_; (have hil : i = l.length := by omega); subst hil; rw [foldK_end _ (Nat.le_refl _)] at hfo; subst hfo; rw [List.take_length] at hlo hst; have hx1 := hlo.2; have hol := hst.o.len; refine tk 6 ?_ (by simp [hxc']; with_reducible rfl); refine fc en40 ?_; refine (sf40 hst.o.nodup hst.o.lo (by omega) (by omega) (by omega) hwc).mono ?_; rintro x1 H2 ⟨rfl, hwb, hfb⟩; refine dn ?_)
      | (refine awp_run (id := 17) (mu := mu0) tab_ok (by simp [show H2.objs[H.objs.length]? = some (.cells [.sl 4 (bds cur.2.S) .shut, .sl 6 (Hs.avs cur.2.Out) .shut]) from (hfb.2 _ (by omega)).trans hxc']; with_reducible rfl) ?_)
      | refine ru ?_
      | (refine awp_if rfl (fun hb => ?_) (fun hb => ?_) <;> (try simp at hb) <;> try (exfalso; omega))
      | fail
    · rw [foldK_drop _ hlt] at hfo
      exact ⟨l.length - (i + 1), by omega, i + 1, _, H2, rfl, by omega, hfo, by rw [q1]; exact hlo.trans q4.1, by rw [q1]; exact hst.trans q4.2, hwb, hxb, by rw [hfb.1, hlc], fun j hj hne => (hfb.2 j (by omega)).trans (hfc j hj hne), sb⟩
    · exact gs_end hwb (by assumption) (show H.objs.length ≤ H2.objs.length by rw [hfb.1]; omega) (fun j hj hne => (hfb.2 j hne).trans (hfc j hj hne))
theorem declW_val1 (N : Nat) (x : Stt) (n : Int) (a b : Str) (e : Tr) (p : Path) (w : Wk) : declW (N + 1) x (.node 70 n a b [e]) p w = (exprW N x.S e (down p 0) w, x.put (118 :: 58 :: a) p []) := by simp [declW, Tr.kind, Tr.kid, Tr.kids, Tr.name]
theorem declW_val2 (N : Nat) (x : Stt) (n : Int) (a b : Str) (t e : Tr) (p : Path) (w : Wk) : declW (N + 1) x (.node 70 n a b [t, e]) p w = (exprW N x.S e (down p 1) (typW N x.S t (down p 0) w), x.put (118 :: 58 :: a) p []) := by simp [declW, Tr.kind, Tr.kid, Tr.kids, Tr.name]
theorem declW_typ (N : Nat) (x : Stt) (n : Int) (a b : Str) (t : Tr) (p : Path) (w : Wk) : declW (N + 1) x (.node 71 n a b [t]) p w = (typW N x.S t (down p 0) w, x.put (116 :: 58 :: a) p []) := by simp [declW, Tr.kind, Tr.kid, Tr.kids, Tr.name]
theorem declW_data (N : Nat) (x : Stt) (n : Int) (a b : Str) (l : List Tr) (p : Path) (w : Wk) : declW (N + 1) x (.node 72 n a b l) p w = dataW (N + 1) x (.node 72 n a b l) p w := by simp [declW, Tr.kind]
theorem declW_str (N : Nat) (x : Stt) (n : Int) (a b : Str) (m : Tr) (p : Path) (w : Wk) : declW (N + 1) x (.node 73 n a b [m]) p w = ((modW N x.S m (down p 0) w).1, x.put (109 :: 58 :: a) p (modW N x.S m (down p 0) w).2) := by simp [declW, Tr.kind, Tr.kid, Tr.kids, Tr.name]
theorem declW_sg (N : Nat) (x : Stt) (n : Int) (a b : Str) (g : Tr) (p : Path) (w : Wk) : declW (N + 1) x (.node 74 n a b [g]) p w = ((sigW N x.S g (down p 0) w).1, ⟨bindB x.S (115 :: 58 :: a) p (sigW N x.S g (down p 0) w).2, x.Out⟩) := by simp [declW, Tr.kind, Tr.kid, Tr.kids, Tr.name]
theorem declW_ftor (N : Nat) (x : Stt) (n : Int) (a b : Str) (g m : Tr) (p : Path) (w : Wk) : declW (N + 1) x (.node 75 n a b [g, m]) p w =
    ((modW N (bindB x.S (109 :: 58 :: b) p (sigW N x.S g (down p 0) w).2) m (down p 1) (sigW N x.S g (down p 0) w).1).1, ⟨bindB x.S (102 :: 58 :: a) p (modW N (bindB x.S (109 :: 58 :: b) p (sigW N x.S g (down p 0) w).2) m (down p 1) (sigW N x.S g (down p 0) w).1).2, x.Out⟩) := by simp [declW, Tr.kind, Tr.kid, Tr.kids, Tr.name, Tr.mark]
theorem declW_opn (N : Nat) (x : Stt) (n : Int) (a b : Str) (p : Path) (w : Wk) : declW (N + 1) x (.node 76 n a b []) p w = ((refer w x.S p [109] a).1, ⟨bringB x.S (refer w x.S p [109] a).2 p, x.Out⟩) := by simp [declW, Tr.kind, Tr.name]
theorem declW_inc (N : Nat) (x : Stt) (n : Int) (a b : Str) (p : Path) (w : Wk) : declW (N + 1) x (.node 77 n a b []) p w = ((refer w x.S p [109] a).1, ⟨bringB x.S (refer w x.S p [109] a).2 p, putAll x.Out (refer w x.S p [109] a).2 p⟩) := by simp [declW, Tr.kind, Tr.name]
end Go.Av
namespace Go.Av
open Go.Proofs
variable {W0 : World}
set_option maxRecDepth 10000
set_option maxHeartbeats 4000000
theorem dS_val1 {U : List Str} {N : Nat} (hU : U.length ≤ 30000000) (ihm : ModS W0 U N) {x : Stt} {p : Path} {o2 : Own} {H : Hp} {r rt : Nat} {w : Wk} {n : Int} {a b : Str} {e : Tr} (ha : a.length ≤ 128) (h : ExW e) (hN : (Tr.node 70 n a b [e]).cnt ≤ N + 1) (hso : SOK U x.S) (hoo : HsOK U x.Out) (hu : InU U (.node 70 n a b [e])) (hsl : x.S.length + (U.length + 1) * (Tr.node 70 n a b [e]).cnt ≤ 60000000)
    (hpl : p.length + (N + 1) ≤ 10000) (hL : w.L.length + (Tr.node 70 n a b [e]).cnt ≤ 60000000) (hX : w.X.length + U.length * (Tr.node 70 n a b [e]).cnt ≤ 60000000) (hw : WKo H r w) (hx : STo H rt x) (hne : rt ≠ r) :
    SF Tryz.prog W0 39 [.ref r 0, .ref rt 0, (Tr.node 70 n a b [e]).av, .sl 1 (ints p) o2] H fun y H' => y = .tuple [] ∧ WKo H' r (declW (N + 1) x (.node 70 n a b [e]) p w).1 ∧ STo H' rt (declW (N + 1) x (.node 70 n a b [e]) p w).2 ∧ Fr (fun j => j = r ∨ j = rt) H H' := by
  have hU6 : U.length ≤ 60000000 := by omega
  have hobx : H.objs[rt]? = some (.cells [.sl 4 (bds x.S) .shut, .sl 6 (Hs.avs x.Out) .shut]) := hx
  have hol := hoo.len
  have hc1 : (Tr.node 70 n a b [e]).cnt ≤ (U.length + 1) * (Tr.node 70 n a b [e]).cnt := Nat.le_mul_of_pos_left _ (by omega)
  have hFr : ∀ {H1 : Hp} (o : AObj), Fr (· = r) H H1 → Fr (fun j => j = r ∨ j = rt) H { H1 with objs := H1.objs.set rt o } := fun o hf => (hf.mono fun j h => .inl h).trans (Fr.set (.inr rfl))
  rw [declW_val1]
  simp only [Tr.cnt, Tr.cnts] at hN hsl hL hX hc1
  simp only [Tr.av]
  refine sf_start [] 220 Tryz.func39 rfl rfl rfl (by decide) (by simp) ?_
  repeat' first
    | refine aSq ?_ | refine aSk ?_ | refine aBl ?_ | refine tN ?_
    | (refine dr 9 [(0, true), (1, true), (2, true), (3, true), (4, true), (5, true), (6, true), (7, true), (8, true), (9, true), (10, true), (11, true), (12, true), (13, true), (14, true), (15, false), (16, false)] [16] ?_; refine dh 4 ?_ (h := (by simp (disch := omega) [Tr.avs, hobx, small_if]; with_reducible rfl)); (first | (refine dh 1 ?_ (h := (by simp (disch := omega) [Tr.avs, hobx, small_if]; with_reducible rfl))) | (refine da 1 (fun _ => ?_) (h := (by simp (disch := omega) [Tr.avs, hobx, small_if]; with_reducible rfl)))); refine dh 5 ?_ (h := (by simp (disch := omega) [Tr.avs, hobx, small_if]; with_reducible rfl)); (first | (refine dh 1 ?_ (h := (by simp (disch := omega) [Tr.avs, hobx, small_if]; with_reducible rfl))) | (refine da 1 (fun _ => ?_) (h := (by simp (disch := omega) [Tr.avs, hobx, small_if]; with_reducible rfl)))); refine dh 4 ?_ (h := (by simp (disch := omega) [Tr.avs, hobx, small_if]; with_reducible rfl)); refine df en77 ?_; refine SF.then (sf77 (by omega)) ?_; refine ⟨.inr rfl, ?_⟩; refine df en78 ?_; refine (sf78 hU6 N e x.S (down p 0) .shut .shut H r w (by omega) h hso (by omega) (by rw [down_len]; omega) (by omega) hw).mono ?_; rintro x1 H1 ⟨rfl, hwb, hfb⟩; refine ⟨.inl rfl, ?_⟩; refine adr_nil ?_)
    | (refine rg 10 ?_; refine tk 7 ?_ (by simp (disch := omega) [Tr.avs, hobx, small_if]; with_reducible rfl); refine fc en79 ?_; refine (sf79n (hx.fr hfb hne) (by omega) (by omega)).mono ?_; rintro x1 H2 ⟨rfl, rfl⟩; refine dn ?_)
    | (refine ru ?_ (by simp (disch := omega) [Tr.avs, hobx, small_if]; with_reducible rfl))
    | (refine awp_if rfl (fun hb => ?_) (fun hb => ?_) <;> (try simp at hb) <;> try (exfalso; omega))
    | refine inN ?_
  exact ⟨rfl, hwb.set (Ne.symm hne), STo.set _ (by rw [hfb.1]; exact obj_lt hx), hFr _ hfb⟩
theorem dS_val2 {U : List Str} {N : Nat} (hU : U.length ≤ 30000000) (ihm : ModS W0 U N) {x : Stt} {p : Path} {o2 : Own} {H : Hp} {r rt : Nat} {w : Wk} {n : Int} {a b : Str} {t e : Tr} (ha : a.length ≤ 128) (h1 : TyW t) (h : ExW e) (hN : (Tr.node 70 n a b [t, e]).cnt ≤ N + 1) (hso : SOK U x.S) (hoo : HsOK U x.Out) (hu : InU U (.node 70 n a b [t, e])) (hsl : x.S.length + (U.length + 1) * (Tr.node 70 n a b [t, e]).cnt ≤ 60000000)
    (hpl : p.length + (N + 1) ≤ 10000) (hL : w.L.length + (Tr.node 70 n a b [t, e]).cnt ≤ 60000000) (hX : w.X.length + U.length * (Tr.node 70 n a b [t, e]).cnt ≤ 60000000) (hw : WKo H r w) (hx : STo H rt x) (hne : rt ≠ r) :
    SF Tryz.prog W0 39 [.ref r 0, .ref rt 0, (Tr.node 70 n a b [t, e]).av, .sl 1 (ints p) o2] H fun y H' => y = .tuple [] ∧ WKo H' r (declW (N + 1) x (.node 70 n a b [t, e]) p w).1 ∧ STo H' rt (declW (N + 1) x (.node 70 n a b [t, e]) p w).2 ∧ Fr (fun j => j = r ∨ j = rt) H H' := by
  have hU6 : U.length ≤ 60000000 := by omega
  have hobx : H.objs[rt]? = some (.cells [.sl 4 (bds x.S) .shut, .sl 6 (Hs.avs x.Out) .shut]) := hx
  have hol := hoo.len
  have hc1 : (Tr.node 70 n a b [t, e]).cnt ≤ (U.length + 1) * (Tr.node 70 n a b [t, e]).cnt := Nat.le_mul_of_pos_left _ (by omega)
  have hFr : ∀ {H1 : Hp} (o : AObj), Fr (· = r) H H1 → Fr (fun j => j = r ∨ j = rt) H { H1 with objs := H1.objs.set rt o } := fun o hf => (hf.mono fun j h => .inl h).trans (Fr.set (.inr rfl))
  rw [declW_val2]
  have q4 := typW_len N x.S t (down p 0) w
  simp only [Tr.cnt, Tr.cnts] at hN hsl hL hX hc1
  simp only [Tr.av]
  refine sf_start [] 220 Tryz.func39 rfl rfl rfl (by decide) (by simp) ?_
  repeat' first
    | refine aSq ?_ | refine aBl ?_ | refine tN ?_
    | (refine dr 8 [(0, true), (1, true), (2, true), (3, true), (4, true), (5, true), (6, true), (7, true), (8, true), (9, false), (10, false)] [10] ?_; refine dh 4 ?_ (h := (by simp (disch := omega) [Tr.avs, hobx, small_if]; with_reducible rfl)); (first | (refine dh 1 ?_ (h := (by simp (disch := omega) [Tr.avs, hobx, small_if]; with_reducible rfl))) | (refine da 1 (fun _ => ?_) (h := (by simp (disch := omega) [Tr.avs, hobx, small_if]; with_reducible rfl)))); refine dh 2 ?_ (h := (by simp (disch := omega) [Tr.avs, hobx, small_if]; with_reducible rfl)); (first | (refine dh 1 ?_ (h := (by simp (disch := omega) [Tr.avs, hobx, small_if]; with_reducible rfl))) | (refine da 1 (fun _ => ?_) (h := (by simp (disch := omega) [Tr.avs, hobx, small_if]; with_reducible rfl)))); refine dh 1 ?_ (h := (by simp (disch := omega) [Tr.avs, hobx, small_if]; with_reducible rfl)); refine df en77 ?_; refine SF.then (sf77 (by omega)) ?_; refine ⟨.inr rfl, ?_⟩; refine df en76 ?_; refine (sf76 hU6 N t x.S (down p 0) .shut .shut H r w (by omega) h1 hso (by omega) (by rw [down_len]; omega) (by omega) hw).mono ?_; rintro x1 H1 ⟨rfl, hwb, hfb⟩; have hob1 : H1.objs[rt]? = some (.cells [.sl 4 (bds x.S) .shut, .sl 6 (Hs.avs x.Out) .shut]) := hx.fr hfb hne; refine ⟨.inl rfl, ?_⟩; refine adr_nil ?_)
    | (refine ru ?_ (by simp (disch := omega) [Tr.avs, hobx, small_if]; with_reducible rfl))
    | (refine awp_if rfl (fun hb => ?_) (fun hb => ?_) <;> (try simp at hb) <;> try (exfalso; omega))
    | fail
  repeat' first
    | refine tN ?_
    | (refine dr 9 [(0, true), (1, true), (2, true), (3, true), (4, true), (5, true), (6, true), (7, true), (8, true), (9, true), (10, true), (11, true), (12, true), (13, true), (14, true), (15, false), (16, false)] [16] ?_; refine dh 4 ?_ (h := (by simp (disch := omega) [Tr.avs, hob1, small_if]; with_reducible rfl)); (first | (refine dh 1 ?_ (h := (by simp (disch := omega) [Tr.avs, hob1, small_if]; with_reducible rfl))) | (refine da 1 (fun _ => ?_) (h := (by simp (disch := omega) [Tr.avs, hob1, small_if]; with_reducible rfl)))); refine dh 5 ?_ (h := (by simp (disch := omega) [Tr.avs, hob1, small_if]; with_reducible rfl)); (first | (refine dh 1 ?_ (h := (by simp (disch := omega) [Tr.avs, hob1, small_if]; with_reducible rfl))) | (refine da 1 (fun _ => ?_) (h := (by simp (disch := omega) [Tr.avs, hob1, small_if]; with_reducible rfl)))); refine dh 4 ?_ (h := (by simp (disch := omega) [Tr.avs, hob1, small_if]; with_reducible rfl)); refine df en77 ?_; refine SF.then (sf77 (by omega)) ?_; refine ⟨.inr rfl, ?_⟩; refine df en78 ?_; refine (sf78 hU6 N e x.S (down p 1) .shut .shut H1 r _ (by omega) h hso (by omega) (by rw [down_len]; omega) (by have := q4.1; omega) hwb).mono ?_; rintro x2 H2 ⟨rfl, hwc, hfc⟩; refine ⟨.inl rfl, ?_⟩; refine adr_nil ?_)
    | (refine rg 10 ?_; refine tk 7 ?_ (by simp (disch := omega) [Tr.avs, hob1, small_if]; with_reducible rfl); refine fc en79 ?_; refine (sf79n (hx.fr (hfb.trans hfc) hne) (by omega) (by omega)).mono ?_; rintro x1 H3 ⟨rfl, rfl⟩; refine dn ?_)
    | refine inN ?_
  exact ⟨rfl, hwc.set (Ne.symm hne), STo.set _ (by rw [hfc.1, hfb.1]; exact obj_lt hx), hFr _ (hfb.trans hfc)⟩
theorem dS_typ {U : List Str} {N : Nat} (hU : U.length ≤ 30000000) (ihm : ModS W0 U N) {x : Stt} {p : Path} {o2 : Own} {H : Hp} {r rt : Nat} {w : Wk} {n : Int} {a b : Str} {t : Tr} (ha : a.length ≤ 128) (h1 : TyW t) (hN : (Tr.node 71 n a b [t]).cnt ≤ N + 1) (hso : SOK U x.S) (hoo : HsOK U x.Out) (hu : InU U (.node 71 n a b [t])) (hsl : x.S.length + (U.length + 1) * (Tr.node 71 n a b [t]).cnt ≤ 60000000)
    (hpl : p.length + (N + 1) ≤ 10000) (hL : w.L.length + (Tr.node 71 n a b [t]).cnt ≤ 60000000) (hX : w.X.length + U.length * (Tr.node 71 n a b [t]).cnt ≤ 60000000) (hw : WKo H r w) (hx : STo H rt x) (hne : rt ≠ r) :
    SF Tryz.prog W0 39 [.ref r 0, .ref rt 0, (Tr.node 71 n a b [t]).av, .sl 1 (ints p) o2] H fun y H' => y = .tuple [] ∧ WKo H' r (declW (N + 1) x (.node 71 n a b [t]) p w).1 ∧ STo H' rt (declW (N + 1) x (.node 71 n a b [t]) p w).2 ∧ Fr (fun j => j = r ∨ j = rt) H H' := by
  have hU6 : U.length ≤ 60000000 := by omega
  have hobx : H.objs[rt]? = some (.cells [.sl 4 (bds x.S) .shut, .sl 6 (Hs.avs x.Out) .shut]) := hx
  have hol := hoo.len
  have hc1 : (Tr.node 71 n a b [t]).cnt ≤ (U.length + 1) * (Tr.node 71 n a b [t]).cnt := Nat.le_mul_of_pos_left _ (by omega)
  have hFr : ∀ {H1 : Hp} (o : AObj), Fr (· = r) H H1 → Fr (fun j => j = r ∨ j = rt) H { H1 with objs := H1.objs.set rt o } := fun o hf => (hf.mono fun j h => .inl h).trans (Fr.set (.inr rfl))
  rw [declW_typ]
  simp only [Tr.cnt, Tr.cnts] at hN hsl hL hX hc1
  simp only [Tr.av]
  refine sf_start [] 220 Tryz.func39 rfl rfl rfl (by decide) (by simp) ?_
  repeat' first
    | refine aSq ?_ | refine aBl ?_ | refine tN ?_
    | (refine dr 12 [(0, true), (1, true), (2, true), (3, true), (4, true), (5, true), (6, true), (7, true), (8, true), (9, false), (10, false)] [10] ?_; refine dh 4 ?_ (h := (by simp (disch := omega) [Tr.avs, hobx, small_if]; with_reducible rfl)); (first | (refine dh 1 ?_ (h := (by simp (disch := omega) [Tr.avs, hobx, small_if]; with_reducible rfl))) | (refine da 1 (fun _ => ?_) (h := (by simp (disch := omega) [Tr.avs, hobx, small_if]; with_reducible rfl)))); refine dh 2 ?_ (h := (by simp (disch := omega) [Tr.avs, hobx, small_if]; with_reducible rfl)); (first | (refine dh 1 ?_ (h := (by simp (disch := omega) [Tr.avs, hobx, small_if]; with_reducible rfl))) | (refine da 1 (fun _ => ?_) (h := (by simp (disch := omega) [Tr.avs, hobx, small_if]; with_reducible rfl)))); refine dh 1 ?_ (h := (by simp (disch := omega) [Tr.avs, hobx, small_if]; with_reducible rfl)); refine df en77 ?_; refine SF.then (sf77 (by omega)) ?_; refine ⟨.inr rfl, ?_⟩; refine df en76 ?_; refine (sf76 hU6 N t x.S (down p 0) .shut .shut H r w (by omega) h1 hso (by omega) (by rw [down_len]; omega) (by omega) hw).mono ?_; rintro x1 H1 ⟨rfl, hwb, hfb⟩; refine ⟨.inl rfl, ?_⟩; refine adr_nil ?_)
    | (refine rg 13 ?_; refine tk 7 ?_ (by simp (disch := omega) [Tr.avs, hobx, small_if]; with_reducible rfl); refine fc en79 ?_; refine (sf79n (hx.fr hfb hne) (by omega) (by omega)).mono ?_; rintro x1 H2 ⟨rfl, rfl⟩; refine dn ?_)
    | (refine ru ?_ (by simp (disch := omega) [Tr.avs, hobx, small_if]; with_reducible rfl))
    | (refine awp_if rfl (fun hb => ?_) (fun hb => ?_) <;> (try simp at hb) <;> try (exfalso; omega))
    | refine inN ?_
  exact ⟨rfl, hwb.set (Ne.symm hne), STo.set _ (by rw [hfb.1]; exact obj_lt hx), hFr _ hfb⟩
theorem dS_data {U : List Str} {N : Nat} (hU : U.length ≤ 30000000) (ihm : ModS W0 U N) {x : Stt} {p : Path} {o2 : Own} {H : Hp} {r rt : Nat} {w : Wk} {n : Int} {a b : Str} {l : List Tr} (h8 : ∀ t ∈ l, t.kind = 8) (h : TyW (.node 72 n a b l)) (hN : (Tr.node 72 n a b l).cnt ≤ N + 1) (hso : SOK U x.S) (hoo : HsOK U x.Out) (hu : InU U (.node 72 n a b l)) (hsl : x.S.length + (U.length + 1) * (Tr.node 72 n a b l).cnt ≤ 60000000)
    (hpl : p.length + (N + 1) ≤ 10000) (hL : w.L.length + (Tr.node 72 n a b l).cnt ≤ 60000000) (hX : w.X.length + U.length * (Tr.node 72 n a b l).cnt ≤ 60000000) (hw : WKo H r w) (hx : STo H rt x) (hne : rt ≠ r) :
    SF Tryz.prog W0 39 [.ref r 0, .ref rt 0, (Tr.node 72 n a b l).av, .sl 1 (ints p) o2] H fun y H' => y = .tuple [] ∧ WKo H' r (declW (N + 1) x (.node 72 n a b l) p w).1 ∧ STo H' rt (declW (N + 1) x (.node 72 n a b l) p w).2 ∧ Fr (fun j => j = r ∨ j = rt) H H' := by
  have hU6 : U.length ≤ 60000000 := by omega
  have hobx : H.objs[rt]? = some (.cells [.sl 4 (bds x.S) .shut, .sl 6 (Hs.avs x.Out) .shut]) := hx
  have hol := hoo.len
  have hc1 : (Tr.node 72 n a b l).cnt ≤ (U.length + 1) * (Tr.node 72 n a b l).cnt := Nat.le_mul_of_pos_left _ (by omega)
  have hFr : ∀ {H1 : Hp} (o : AObj), Fr (· = r) H H1 → Fr (fun j => j = r ∨ j = rt) H { H1 with objs := H1.objs.set rt o } := fun o hf => (hf.mono fun j h => .inl h).trans (Fr.set (.inr rfl))
  rw [declW_data]
  have h80 := sf80 (W0 := W0) (o2 := o2) (p := p) hU6 hN h h8 hso (by omega) (by omega) (by omega) (by omega) hw hx hne
  simp only [Tr.av] at h80 ⊢
  refine sf_start [] 220 Tryz.func39 rfl rfl rfl (by decide) (by simp) ?_
  repeat' first
    | refine aSq ?_ | refine aBl ?_ | refine tN ?_
    | (refine rg 15 ?_; refine tk 4 ?_; refine fc en80 ?_; refine h80.mono ?_; rintro x1 H1 ⟨rfl, hwb, hxb, hfb⟩; refine dn ?_)
    | refine ru ?_
    | (refine awp_if rfl (fun hb => ?_) (fun hb => ?_) <;> (try simp at hb) <;> try (exfalso; omega))
    | refine inN ?_
  exact ⟨rfl, hwb, hxb, hfb⟩
theorem dS_str {U : List Str} {N : Nat} (hU : U.length ≤ 30000000) (ihm : ModS W0 U N) {x : Stt} {p : Path} {o2 : Own} {H : Hp} {r rt : Nat} {w : Wk} {n : Int} {a b : Str} {m : Tr} (ha : a.length ≤ 128) (h : MdW m) (hN : (Tr.node 73 n a b [m]).cnt ≤ N + 1) (hso : SOK U x.S) (hoo : HsOK U x.Out) (hu : InU U (.node 73 n a b [m])) (hsl : x.S.length + (U.length + 1) * (Tr.node 73 n a b [m]).cnt ≤ 60000000)
    (hpl : p.length + (N + 1) ≤ 10000) (hL : w.L.length + (Tr.node 73 n a b [m]).cnt ≤ 60000000) (hX : w.X.length + U.length * (Tr.node 73 n a b [m]).cnt ≤ 60000000) (hw : WKo H r w) (hx : STo H rt x) (hne : rt ≠ r) :
    SF Tryz.prog W0 39 [.ref r 0, .ref rt 0, (Tr.node 73 n a b [m]).av, .sl 1 (ints p) o2] H fun y H' => y = .tuple [] ∧ WKo H' r (declW (N + 1) x (.node 73 n a b [m]) p w).1 ∧ STo H' rt (declW (N + 1) x (.node 73 n a b [m]) p w).2 ∧ Fr (fun j => j = r ∨ j = rt) H H' := by
  have hU6 : U.length ≤ 60000000 := by omega
  have hobx : H.objs[rt]? = some (.cells [.sl 4 (bds x.S) .shut, .sl 6 (Hs.avs x.Out) .shut]) := hx
  have hol := hoo.len
  have hc1 : (Tr.node 73 n a b [m]).cnt ≤ (U.length + 1) * (Tr.node 73 n a b [m]).cnt := Nat.le_mul_of_pos_left _ (by omega)
  have hFr : ∀ {H1 : Hp} (o : AObj), Fr (· = r) H H1 → Fr (fun j => j = r ∨ j = rt) H { H1 with objs := H1.objs.set rt o } := fun o hf => (hf.mono fun j h => .inl h).trans (Fr.set (.inr rfl))
  rw [declW_str]
  have hum := hu.kids.head
  have hm : (U.length + 1) * m.cnt ≤ (U.length + 1) * (1 + (m.cnt + 0)) := mul_le _ (by omega)
  have hm2 : U.length * m.cnt ≤ U.length * (1 + (m.cnt + 0)) := mul_le _ (by omega)
  simp only [Tr.cnt, Tr.cnts] at hN hsl hL hX hc1
  simp only [Tr.av]
  refine sf_start [] 220 Tryz.func39 rfl rfl rfl (by decide) (by simp) ?_
  repeat' first
    | refine aSq ?_ | refine aBl ?_ | refine tN ?_
    | (refine dr 17 [(0, true), (1, true), (2, true), (3, true), (4, true), (5, true), (6, true), (7, true), (8, true), (9, true), (10, true), (11, true), (12, true), (13, true), (14, true), (15, true), (16, false), (17, false), (18, false)] [17, 18] ?_; refine dh 4 ?_ (h := (by simp (disch := omega) [Tr.avs, hobx, small_if]; with_reducible rfl)); (first | (refine dh 1 ?_ (h := (by simp (disch := omega) [Tr.avs, hobx, small_if]; with_reducible rfl))) | (refine da 1 (fun _ => ?_) (h := (by simp (disch := omega) [Tr.avs, hobx, small_if]; with_reducible rfl)))); refine dh 6 ?_ (h := (by simp (disch := omega) [Tr.avs, hobx, small_if]; with_reducible rfl)); (first | (refine dh 1 ?_ (h := (by simp (disch := omega) [Tr.avs, hobx, small_if]; with_reducible rfl))) | (refine da 1 (fun _ => ?_) (h := (by simp (disch := omega) [Tr.avs, hobx, small_if]; with_reducible rfl)))); refine dh 2 ?_ (h := (by simp (disch := omega) [Tr.avs, hobx, small_if]; with_reducible rfl)); (first | (refine dh 1 ?_ (h := (by simp (disch := omega) [Tr.avs, hobx, small_if]; with_reducible rfl))) | (refine da 1 (fun _ => ?_) (h := (by simp (disch := omega) [Tr.avs, hobx, small_if]; with_reducible rfl)))); refine dh 1 ?_ (h := (by simp (disch := omega) [Tr.avs, hobx, small_if]; with_reducible rfl)); refine df en77 ?_; refine SF.then (sf77 (by omega)) ?_; refine ⟨.inr rfl, ?_⟩; refine df en81 ?_; refine (ihm m x.S (down p 0) .shut .shut H r w (by omega) h hso hum (by omega) (by rw [down_len]; omega) (by omega) (by omega) hw).mono ?_; rintro x1 H1 ⟨rfl, hwb, hfb⟩; refine ⟨.inl rfl, ?_⟩; refine df en79 ?_; refine (sf79 (hx.fr hfb hne) (by omega) (by omega)).mono ?_; rintro x1 H2 ⟨rfl, rfl⟩; refine ⟨.inl rfl, ?_⟩; refine adr_nil ?_)
    | (refine ru ?_ (by simp (disch := omega) [Tr.avs, hobx, small_if]; with_reducible rfl))
    | (refine awp_if rfl (fun hb => ?_) (fun hb => ?_) <;> (try simp at hb) <;> try (exfalso; omega))
    | refine inN ?_
  exact ⟨rfl, hwb.set (Ne.symm hne), STo.set _ (by rw [hfb.1]; exact obj_lt hx), hFr _ hfb⟩
theorem dS_sg {U : List Str} {N : Nat} (hU : U.length ≤ 30000000) (ihm : ModS W0 U N) {x : Stt} {p : Path} {o2 : Own} {H : Hp} {r rt : Nat} {w : Wk} {n : Int} {a b : Str} {g : Tr} (ha : a.length ≤ 128) (h1 : SgW g) (hN : (Tr.node 74 n a b [g]).cnt ≤ N + 1) (hso : SOK U x.S) (hoo : HsOK U x.Out) (hu : InU U (.node 74 n a b [g])) (hsl : x.S.length + (U.length + 1) * (Tr.node 74 n a b [g]).cnt ≤ 60000000)
    (hpl : p.length + (N + 1) ≤ 10000) (hL : w.L.length + (Tr.node 74 n a b [g]).cnt ≤ 60000000) (hX : w.X.length + U.length * (Tr.node 74 n a b [g]).cnt ≤ 60000000) (hw : WKo H r w) (hx : STo H rt x) (hne : rt ≠ r) :
    SF Tryz.prog W0 39 [.ref r 0, .ref rt 0, (Tr.node 74 n a b [g]).av, .sl 1 (ints p) o2] H fun y H' => y = .tuple [] ∧ WKo H' r (declW (N + 1) x (.node 74 n a b [g]) p w).1 ∧ STo H' rt (declW (N + 1) x (.node 74 n a b [g]) p w).2 ∧ Fr (fun j => j = r ∨ j = rt) H H' := by
  have hU6 : U.length ≤ 60000000 := by omega
  have hobx : H.objs[rt]? = some (.cells [.sl 4 (bds x.S) .shut, .sl 6 (Hs.avs x.Out) .shut]) := hx
  have hol := hoo.len
  have hc1 : (Tr.node 74 n a b [g]).cnt ≤ (U.length + 1) * (Tr.node 74 n a b [g]).cnt := Nat.le_mul_of_pos_left _ (by omega)
  have hFr : ∀ {H1 : Hp} (o : AObj), Fr (· = r) H H1 → Fr (fun j => j = r ∨ j = rt) H { H1 with objs := H1.objs.set rt o } := fun o hf => (hf.mono fun j h => .inl h).trans (Fr.set (.inr rfl))
  rw [declW_sg]
  have hug := hu.kids.head
  have hm : (U.length + 1) * g.cnt ≤ (U.length + 1) * (1 + (g.cnt + 0)) := mul_le _ (by omega)
  simp only [Tr.cnt, Tr.cnts] at hN hsl hL hX hc1
  simp only [Tr.av]
  refine sf_start [] 220 Tryz.func39 rfl rfl rfl (by decide) (by simp) ?_
  repeat' first
    | refine aSq ?_ | refine aBl ?_ | refine tN ?_
    | (refine ru ?_ (by simp (disch := omega) [Tr.avs, hobx, small_if]; with_reducible rfl))
    | (refine awp_if rfl (fun hb => ?_) (fun hb => ?_) <;> (try simp at hb) <;> try (exfalso; omega))
    | fail
  refine awp_drawJ (id := 19) (fun X => X.objs[rt]? = some (.cells [.sl 4 (bds x.S) .shut, .sl 6 (Hs.avs x.Out) .shut])) [(0, true), (1, true), (2, true), (3, true), (4, true), (5, true), (6, true), (7, true), (8, true), (9, true), (10, true), (11, true), (12, true), (13, true), (14, true), (15, true), (16, true), (17, true), (18, true), (19, true), (20, false), (21, false), (22, false), (23, true), (24, true), (25, false)] [25] tab_ok mixedT (by decide +kernel) (hobx) ?_
  refine adj_fixN (mu := mu0) rfl (by decide +kernel) rfl (hobx) (fun X hX => by simp [hX, Tr.avs]; rfl) (by simp; rfl) ?_
  refine adj_fixN (mu := mu0) rfl (by decide +kernel) rfl (hobx) (fun X hX => by simp [hX, Tr.avs]; rfl) (by simp; rfl) ?_
  refine adj_fixN (mu := mu0) rfl (by decide +kernel) rfl (hobx) (fun X hX => by simp [hX, Tr.avs]; rfl) (by simp; rfl) ?_
  refine adj_fixN (mu := mu0) rfl (by decide +kernel) rfl (hobx) (fun X hX => by simp [hX, Tr.avs]; rfl) (by simp; rfl) ?_
  refine adj_fixN (mu := mu0) rfl (by decide +kernel) rfl (hobx) (fun X hX => by simp [hX, Tr.avs]; rfl) (by simp; rfl) ?_
  refine adj_fixN (mu := mu0) rfl (by decide +kernel) rfl (hobx) (fun X hX => by simp [hX, Tr.avs]; rfl) (by simp; rfl) ?_
  refine adj_fixN (mu := mu0) rfl (by decide +kernel) rfl (hobx) (fun X hX => by simp [hX, Tr.avs]; rfl) (by simp; rfl) ?_
  refine adj_fixN (mu := mu0) rfl (by decide +kernel) rfl (hobx) (fun X hX => by simp [hX, Tr.avs]; rfl) (by simp; rfl) ?_
  refine adj_fixN (mu := mu0) rfl (by decide +kernel) rfl (hobx) (fun X hX => by simp [hX, Tr.avs]; rfl) (by simp; rfl) ?_
  refine adj_fixN (mu := mu0) rfl (by decide +kernel) rfl (hobx) (fun X hX => by simp (disch := omega) [small_if, small_ifI]; rfl) (by simp; rfl) ?_
  refine adj_fixN (mu := mu0) rfl (by decide +kernel) rfl (hobx) (fun X hX => by simp [hX, Tr.avs]; rfl) (by simp; rfl) ?_
  refine adj_fixN (mu := mu0) rfl (by decide +kernel) rfl (hobx) (fun X hX => by simp [hX, Tr.avs]; rfl) (by simp; rfl) ?_
  refine adj_fixN (mu := mu0) rfl (by decide +kernel) rfl (hobx) (fun X hX => by simp [hX, Tr.avs]; rfl) (by simp; rfl) ?_
  refine adj_fixN (mu := mu0) rfl (by decide +kernel) rfl (hobx) (fun X hX => by simp [hX, Tr.avs]; rfl) (by simp; rfl) ?_
  refine adj_fixN (mu := mu0) rfl (by decide +kernel) rfl (hobx) (fun X hX => by simp [hX, Tr.avs]; rfl) (by simp; rfl) ?_
  refine adj_fixN (mu := mu0) rfl (by decide +kernel) rfl (hobx) (fun X hX => by simp [hX, Tr.avs]; rfl) (by simp; rfl) ?_
  refine adj_fixN (mu := mu0) rfl (by decide +kernel) rfl (hobx) (fun X hX => by simp [hX, Tr.avs]; rfl) (by simp; rfl) ?_
  refine adj_fixN (mu := mu0) rfl (by decide +kernel) rfl (hobx) (fun X hX => by simp [hX, Tr.avs]; rfl) (by simp; rfl) ?_
  refine adj_fixN (mu := mu0) rfl (by decide +kernel) rfl (hobx) (fun X hX => by simp [hX, Tr.avs]; rfl) (by simp; rfl) ?_
  refine adj_fixN (mu := mu0) rfl (by decide +kernel) rfl (hobx) (fun X hX => by simp [hX, Tr.avs]; rfl) (by simp; rfl) ?_
  refine adj_fn rfl rfl rfl rfl rfl en77 (by simp; rfl) ?_
  refine SF.then (sf77 (by omega)) ?_
  refine ⟨.inr hobx, ?_⟩
  refine adj_fn rfl rfl rfl rfl rfl en83 (by simp; rfl) ?_
  refine ((sigsS U hU N).1 g x.S (down p 0) .shut .shut H r w (by omega) h1 hso hug (by omega) (by rw [down_len]; omega) (by omega) hw).mono ?_; rintro x1 H1 ⟨rfl, hwb, hfb⟩; have hob1 : H1.objs[rt]? = some (.cells [.sl 4 (bds x.S) .shut, .sl 6 (Hs.avs x.Out) .shut]) := hx.fr hfb hne
  refine ⟨.inr hob1, ?_⟩
  refine adj_fn rfl rfl rfl rfl rfl en82 (by simp; rfl) ?_
  refine SF.then (sf82 (by omega)) ?_
  refine ⟨.inr hob1, ?_⟩
  refine adj_fixN (mu := mu0) rfl (by decide +kernel) rfl (hob1) (fun X hX => by simp [hX, hob1]; rfl) (by simp; rfl) ?_
  refine adj_fixN (mu := mu0) rfl (by decide +kernel) rfl (hob1) (fun X hX => by simp [hX, hob1]; rfl) (by simp; rfl) ?_
  refine adj_stepN (mu := mu0) tab_ok rfl (by simp [hob1]; first | exact ⟨rfl, rfl⟩ | rfl) (.inl rfl) (by simp; rfl) ?_
  refine adj_nil ?_
  exact ⟨rfl, hwb.set (Ne.symm hne), STo.set ⟨_, x.Out⟩ (by rw [hfb.1]; exact obj_lt hx), hFr _ hfb⟩
theorem dS_ftor {U : List Str} {N : Nat} (hU : U.length ≤ 30000000) (ihm : ModS W0 U N) {x : Stt} {p : Path} {o2 : Own} {H : Hp} {r rt : Nat} {w : Wk} {n : Int} {a b : Str} {g m : Tr} (ha : a.length ≤ 128) (hb1 : b.length ≤ 128) (h1 : SgW g) (h2 : MdW m) (hN : (Tr.node 75 n a b [g, m]).cnt ≤ N + 1) (hso : SOK U x.S) (hoo : HsOK U x.Out) (hu : InU U (.node 75 n a b [g, m])) (hsl : x.S.length + (U.length + 1) * (Tr.node 75 n a b [g, m]).cnt ≤ 60000000)
    (hpl : p.length + (N + 1) ≤ 10000) (hL : w.L.length + (Tr.node 75 n a b [g, m]).cnt ≤ 60000000) (hX : w.X.length + U.length * (Tr.node 75 n a b [g, m]).cnt ≤ 60000000) (hw : WKo H r w) (hx : STo H rt x) (hne : rt ≠ r) :
    SF Tryz.prog W0 39 [.ref r 0, .ref rt 0, (Tr.node 75 n a b [g, m]).av, .sl 1 (ints p) o2] H fun y H' => y = .tuple [] ∧ WKo H' r (declW (N + 1) x (.node 75 n a b [g, m]) p w).1 ∧ STo H' rt (declW (N + 1) x (.node 75 n a b [g, m]) p w).2 ∧ Fr (fun j => j = r ∨ j = rt) H H' := by
  have hU6 : U.length ≤ 60000000 := by omega
  have hobx : H.objs[rt]? = some (.cells [.sl 4 (bds x.S) .shut, .sl 6 (Hs.avs x.Out) .shut]) := hx
  have hol := hoo.len
  have hc1 : (Tr.node 75 n a b [g, m]).cnt ≤ (U.length + 1) * (Tr.node 75 n a b [g, m]).cnt := Nat.le_mul_of_pos_left _ (by omega)
  have hFr : ∀ {H1 : Hp} (o : AObj), Fr (· = r) H H1 → Fr (fun j => j = r ∨ j = rt) H { H1 with objs := H1.objs.set rt o } := fun o hf => (hf.mono fun j h => .inl h).trans (Fr.set (.inr rfl))
  rw [declW_ftor]
  have hug := hu.kids.head
  have hum := hu.kids.tail.head
  have hm : (U.length + 1) * g.cnt ≤ (U.length + 1) * (1 + (g.cnt + (m.cnt + 0))) := mul_le _ (by omega)
  have hm2 : U.length * m.cnt ≤ U.length * (1 + (g.cnt + (m.cnt + 0))) := mul_le _ (by omega)
  have hm3 : (U.length + 1) * (1 + m.cnt) ≤ (U.length + 1) * (1 + (g.cnt + (m.cnt + 0))) := mul_le _ (by omega)
  have hm4 : (U.length + 1) * (1 + m.cnt) = (U.length + 1) + (U.length + 1) * m.cnt := by rw [Nat.mul_add, Nat.mul_one]
  obtain ⟨l1, q1⟩ := (sigs_ok U N).1 x.S g (down p 0) w h1 hso hug (by rw [down_len]; omega)
  have l1x := l1.2
  simp only [Tr.cnt, Tr.cnts] at hN hsl hL hX hc1
  simp only [Tr.av]
  refine sf_start [] 220 Tryz.func39 rfl rfl rfl (by decide) (by simp) ?_
  repeat' first
    | refine aSq ?_ | refine aBl ?_ | refine tN ?_
    | (refine dr 21 [(0, true), (1, true), (2, true), (3, true), (4, true), (5, true), (6, true), (7, true), (8, true), (9, false), (10, false), (11, false)] [10, 11] ?_; refine dh 4 ?_ (h := (by simp (disch := omega) [Tr.avs, hobx, small_if]; with_reducible rfl)); (first | (refine dh 1 ?_ (h := (by simp (disch := omega) [Tr.avs, hobx, small_if]; with_reducible rfl))) | (refine da 1 (fun _ => ?_) (h := (by simp (disch := omega) [Tr.avs, hobx, small_if]; with_reducible rfl)))); refine dh 2 ?_ (h := (by simp (disch := omega) [Tr.avs, hobx, small_if]; with_reducible rfl)); (first | (refine dh 1 ?_ (h := (by simp (disch := omega) [Tr.avs, hobx, small_if]; with_reducible rfl))) | (refine da 1 (fun _ => ?_) (h := (by simp (disch := omega) [Tr.avs, hobx, small_if]; with_reducible rfl)))); refine dh 1 ?_ (h := (by simp (disch := omega) [Tr.avs, hobx, small_if]; with_reducible rfl)); refine df en77 ?_; refine SF.then (sf77 (by omega)) ?_; refine ⟨.inr rfl, ?_⟩; refine df en83 ?_; refine ((sigsS U hU N).1 g x.S (down p 0) .shut .shut H r w (by omega) h1 hso hug (by omega) (by rw [down_len]; omega) (by omega) hw).mono ?_; rintro x1 H1 ⟨rfl, hwb, hfb⟩; have hob1 : H1.objs[rt]? = some (.cells [.sl 4 (bds x.S) .shut, .sl 6 (Hs.avs x.Out) .shut]) := hx.fr hfb hne; refine ⟨.inl rfl, ?_⟩; refine dx ?_ (h := (by simp (disch := omega) [Tr.avs, hobx, small_if]; with_reducible rfl)))
    | (refine ru ?_ (by simp (disch := omega) [Tr.avs, hobx, small_if]; with_reducible rfl))
    | (refine awp_if rfl (fun hb => ?_) (fun hb => ?_) <;> (try simp at hb) <;> try (exfalso; omega))
    | fail
  repeat' first
    | refine tN ?_
    | (refine dr 22 [(0, true), (1, true), (2, true), (3, true), (4, true), (5, true), (6, true), (7, true), (8, true), (9, true), (10, true), (11, true), (13, true), (14, true), (15, true), (16, true), (12, false), (17, false), (18, false), (19, false)] [18, 19] ?_; refine dh 4 ?_ (h := (by simp (disch := omega) [Tr.avs, hob1, small_if]; with_reducible rfl)); (first | (refine dh 1 ?_ (h := (by simp (disch := omega) [Tr.avs, hob1, small_if]; with_reducible rfl))) | (refine da 1 (fun _ => ?_) (h := (by simp (disch := omega) [Tr.avs, hob1, small_if]; with_reducible rfl)))); refine dh 3 ?_ (h := (by simp (disch := omega) [Tr.avs, hob1, small_if]; with_reducible rfl)); (first | (refine dh 1 ?_ (h := (by simp (disch := omega) [Tr.avs, hob1, small_if]; with_reducible rfl))) | (refine da 1 (fun _ => ?_) (h := (by simp (disch := omega) [Tr.avs, hob1, small_if]; with_reducible rfl)))); refine dh 5 ?_ (h := (by simp (disch := omega) [Tr.avs, hob1, small_if]; with_reducible rfl)); (first | (refine dh 1 ?_ (h := (by simp (disch := omega) [Tr.avs, hob1, small_if]; with_reducible rfl))) | (refine da 1 (fun _ => ?_) (h := (by simp (disch := omega) [Tr.avs, hob1, small_if]; with_reducible rfl)))); refine dh 1 ?_ (h := (by simp (disch := omega) [Tr.avs, hob1, small_if]; with_reducible rfl)); refine df en82 ?_; refine SF.then (sf82 (by omega)) ?_; refine ⟨.inr rfl, ?_⟩; refine df en77 ?_; refine SF.then (sf77 (by omega)) ?_; refine ⟨.inr rfl, ?_⟩; refine df en81 ?_; refine (ihm m (bindB x.S (109 :: 58 :: b) p (sigW N x.S g (down p 0) w).2) (down p 1) .shut .shut H1 r _ (by omega) h2 (bindB_ok hso (by simp) (by simp; omega) (by omega) q1) hum (by simp [bindB]; omega) (by rw [down_len]; omega) (by have := l1.1; omega) (by rw [l1x]; omega) hwb).mono ?_; rintro x2 H2 ⟨rfl, hwc, hfc⟩; have hob2 : H2.objs[rt]? = some (.cells [.sl 4 (bds x.S) .shut, .sl 6 (Hs.avs x.Out) .shut]) := hx.fr (hfb.trans hfc) hne; refine ⟨.inl rfl, ?_⟩; refine dx ?_ (h := (by simp (disch := omega) [Tr.avs, hob1, small_if]; with_reducible rfl)))
    | fail
  repeat' first
    | (refine dr 23 [(0, true), (1, true), (2, true), (3, true), (4, true), (5, true), (6, true), (7, true), (8, true), (9, true), (10, true), (11, true), (12, false), (13, true), (14, true), (15, false)] [15] ?_; refine da 12 (fun _ => ?_) (h := (by simp (disch := omega) [Tr.avs, hob2, small_if]; with_reducible rfl)); refine df en82 ?_; refine SF.then (sf82 (by omega)) ?_; refine ⟨.inr rfl, ?_⟩; refine da 2 (fun _ => ?_) (h := (by simp (disch := omega) [Tr.avs, hob2, small_if]; with_reducible rfl)); refine dx ?_ (h := (by simp (disch := omega) [Tr.avs, hob2, small_if]; with_reducible rfl)))
    | refine inN ?_
  exact ⟨rfl, hwc.set (Ne.symm hne), STo.set ⟨_, x.Out⟩ (by rw [hfc.1, hfb.1]; exact obj_lt hx), hFr _ (hfb.trans hfc)⟩
theorem dS_opn {U : List Str} {N : Nat} (hU : U.length ≤ 30000000) (ihm : ModS W0 U N) {x : Stt} {p : Path} {o2 : Own} {H : Hp} {r rt : Nat} {w : Wk} {n : Int} {a b : Str} (h : longB a = true) (hN : (Tr.node 76 n a b []).cnt ≤ N + 1) (hso : SOK U x.S) (hoo : HsOK U x.Out) (hu : InU U (.node 76 n a b [])) (hsl : x.S.length + (U.length + 1) * (Tr.node 76 n a b []).cnt ≤ 60000000)
    (hpl : p.length + (N + 1) ≤ 10000) (hL : w.L.length + (Tr.node 76 n a b []).cnt ≤ 60000000) (hX : w.X.length + U.length * (Tr.node 76 n a b []).cnt ≤ 60000000) (hw : WKo H r w) (hx : STo H rt x) (hne : rt ≠ r) :
    SF Tryz.prog W0 39 [.ref r 0, .ref rt 0, (Tr.node 76 n a b []).av, .sl 1 (ints p) o2] H fun y H' => y = .tuple [] ∧ WKo H' r (declW (N + 1) x (.node 76 n a b []) p w).1 ∧ STo H' rt (declW (N + 1) x (.node 76 n a b []) p w).2 ∧ Fr (fun j => j = r ∨ j = rt) H H' := by
  have hU6 : U.length ≤ 60000000 := by omega
  have hobx : H.objs[rt]? = some (.cells [.sl 4 (bds x.S) .shut, .sl 6 (Hs.avs x.Out) .shut]) := hx
  have hol := hoo.len
  have hc1 : (Tr.node 76 n a b []).cnt ≤ (U.length + 1) * (Tr.node 76 n a b []).cnt := Nat.le_mul_of_pos_left _ (by omega)
  have hFr : ∀ {H1 : Hp} (o : AObj), Fr (· = r) H H1 → Fr (fun j => j = r ∨ j = rt) H { H1 with objs := H1.objs.set rt o } := fun o hf => (hf.mono fun j h => .inl h).trans (Fr.set (.inr rfl))
  rw [declW_opn]
  have hil := (refer_ok (w := w) (p := p) (sp := [109]) (long := a) hso).len
  simp only [Tr.cnt, Tr.cnts] at hN hsl hL hX hc1
  simp only [Tr.av]
  refine sf_start [] 220 Tryz.func39 rfl rfl rfl (by decide) (by simp) ?_
  repeat' first
    | refine aSq ?_ | refine aSk ?_ | refine aBl ?_ | refine tN ?_
    | (refine dr 2 [(0, true), (1, true), (2, true), (3, true), (4, true), (5, true), (6, true), (7, true), (8, true), (9, true), (10, false), (11, false)] [10, 11] ?_; refine dh 4 ?_ (h := (by simp (disch := omega) [hobx]; with_reducible rfl)); (first | (refine dh 1 ?_ (h := (by simp (disch := omega) [hobx]; with_reducible rfl))) | (refine da 1 (fun _ => ?_) (h := (by simp (disch := omega) [hobx]; with_reducible rfl)))); refine dh 4 ?_ (h := (by simp (disch := omega) [hobx]; with_reducible rfl)); (first | (refine dh 1 ?_ (h := (by simp (disch := omega) [hobx]; with_reducible rfl))) | (refine da 1 (fun _ => ?_) (h := (by simp (disch := omega) [hobx]; with_reducible rfl)))); refine df en84 ?_; refine (sf84 hU6 hso (by omega) (by omega) (by simp) h hw (by omega)).mono ?_; rintro x1 H1 ⟨rfl, hwb, hfb⟩; have hob1 : H1.objs[rt]? = some (.cells [.sl 4 (bds x.S) .shut, .sl 6 (Hs.avs x.Out) .shut]) := hx.fr hfb hne; refine ⟨.inl rfl, ?_⟩; refine dx ?_ (h := (by simp (disch := omega) [hobx]; with_reducible rfl)))
    | (refine rg 5 ?_; (have hset : ∀ o : AObj, (H1.objs.set rt o)[rt]? = some o := fun o => by simp [obj_lt hob1]); refine tk 7 ?_ (by simp [hob1, hset]; with_reducible rfl); refine fc en86 ?_; refine SF.then (sf86 (by omega)) ?_; refine tk 3 ?_ (by simp [hob1, hset, set_twice]; with_reducible rfl); refine dn ?_)
    | (refine ru ?_ (by simp (disch := omega) [hobx]; with_reducible rfl))
    | (refine awp_if rfl (fun hb => ?_) (fun hb => ?_) <;> (try simp at hb) <;> try (exfalso; omega))
    | refine inN ?_
  exact ⟨rfl, hwb.set (Ne.symm hne), STo.set ⟨_, x.Out⟩ (by rw [hfb.1]; exact obj_lt hx), hFr _ hfb⟩
theorem dS_inc {U : List Str} {N : Nat} (hU : U.length ≤ 30000000) (ihm : ModS W0 U N) {x : Stt} {p : Path} {o2 : Own} {H : Hp} {r rt : Nat} {w : Wk} {n : Int} {a b : Str} (h : longB a = true) (hN : (Tr.node 77 n a b []).cnt ≤ N + 1) (hso : SOK U x.S) (hoo : HsOK U x.Out) (hu : InU U (.node 77 n a b [])) (hsl : x.S.length + (U.length + 1) * (Tr.node 77 n a b []).cnt ≤ 60000000)
    (hpl : p.length + (N + 1) ≤ 10000) (hL : w.L.length + (Tr.node 77 n a b []).cnt ≤ 60000000) (hX : w.X.length + U.length * (Tr.node 77 n a b []).cnt ≤ 60000000) (hw : WKo H r w) (hx : STo H rt x) (hne : rt ≠ r) :
    SF Tryz.prog W0 39 [.ref r 0, .ref rt 0, (Tr.node 77 n a b []).av, .sl 1 (ints p) o2] H fun y H' => y = .tuple [] ∧ WKo H' r (declW (N + 1) x (.node 77 n a b []) p w).1 ∧ STo H' rt (declW (N + 1) x (.node 77 n a b []) p w).2 ∧ Fr (fun j => j = r ∨ j = rt) H H' := by
  have hU6 : U.length ≤ 60000000 := by omega
  have hobx : H.objs[rt]? = some (.cells [.sl 4 (bds x.S) .shut, .sl 6 (Hs.avs x.Out) .shut]) := hx
  have hol := hoo.len
  have hc1 : (Tr.node 77 n a b []).cnt ≤ (U.length + 1) * (Tr.node 77 n a b []).cnt := Nat.le_mul_of_pos_left _ (by omega)
  have hFr : ∀ {H1 : Hp} (o : AObj), Fr (· = r) H H1 → Fr (fun j => j = r ∨ j = rt) H { H1 with objs := H1.objs.set rt o } := fun o hf => (hf.mono fun j h => .inl h).trans (Fr.set (.inr rfl))
  rw [declW_inc]
  have hil := (refer_ok (w := w) (p := p) (sp := [109]) (long := a) hso).len
  simp only [Tr.cnt, Tr.cnts] at hN hsl hL hX hc1
  simp only [Tr.av]
  refine sf_start [] 220 Tryz.func39 rfl rfl rfl (by decide) (by simp) ?_
  repeat' first
    | refine aSq ?_ | refine aBl ?_ | refine tN ?_
    | (refine dr 2 [(0, true), (1, true), (2, true), (3, true), (4, true), (5, true), (6, true), (7, true), (8, true), (9, true), (10, false), (11, false)] [10, 11] ?_; refine dh 4 ?_ (h := (by simp (disch := omega) [hobx]; with_reducible rfl)); (first | (refine dh 1 ?_ (h := (by simp (disch := omega) [hobx]; with_reducible rfl))) | (refine da 1 (fun _ => ?_) (h := (by simp (disch := omega) [hobx]; with_reducible rfl)))); refine dh 4 ?_ (h := (by simp (disch := omega) [hobx]; with_reducible rfl)); (first | (refine dh 1 ?_ (h := (by simp (disch := omega) [hobx]; with_reducible rfl))) | (refine da 1 (fun _ => ?_) (h := (by simp (disch := omega) [hobx]; with_reducible rfl)))); refine df en84 ?_; refine (sf84 hU6 hso (by omega) (by omega) (by simp) h hw (by omega)).mono ?_; rintro x1 H1 ⟨rfl, hwb, hfb⟩; have hob1 : H1.objs[rt]? = some (.cells [.sl 4 (bds x.S) .shut, .sl 6 (Hs.avs x.Out) .shut]) := hx.fr hfb hne; refine ⟨.inl rfl, ?_⟩; refine dx ?_ (h := (by simp (disch := omega) [hobx]; with_reducible rfl)))
    | (refine rg 4 ?_; refine tk 7 ?_ (by simp [hob1]; with_reducible rfl); refine fc en85 ?_; refine SF.then (sf85 (by omega)) ?_; refine tk 3 ?_ (by simp [hob1]; with_reducible rfl); refine dn ?_)
    | (refine rg 5 ?_; (have hset : ∀ o : AObj, (H1.objs.set rt o)[rt]? = some o := fun o => by simp [obj_lt hob1]); refine tk 7 ?_ (by simp [hob1, hset]; with_reducible rfl); refine fc en86 ?_; refine SF.then (sf86 (by omega)) ?_; refine tk 3 ?_ (by simp [hob1, hset, set_twice]; with_reducible rfl); refine dn ?_)
    | (refine ru ?_ (by simp (disch := omega) [hobx]; with_reducible rfl))
    | (refine awp_if rfl (fun hb => ?_) (fun hb => ?_) <;> (try simp at hb) <;> try (exfalso; omega))
    | refine inN ?_
  exact ⟨rfl, hwb.set (Ne.symm hne), STo.set ⟨bringB x.S (refer w x.S p [109] a).2 p, putAll x.Out (refer w x.S p [109] a).2 p⟩ (by rw [hfb.1]; exact obj_lt hx), hFr _ hfb⟩
theorem declS_step {U : List Str} {N : Nat} (hU : U.length ≤ 30000000) (ihm : ModS W0 U N) : DeclS W0 U (N + 1) := by
  intro t x p o2 H r rt w hN ht hso hoo hu hsl hpl hL hX hw hx hne
  cases ht with
  | val1 ha h => exact dS_val1 hU ihm ha h hN hso hoo hu hsl hpl hL hX hw hx hne
  | val2 ha h1 h => exact dS_val2 hU ihm ha h1 h hN hso hoo hu hsl hpl hL hX hw hx hne
  | typ ha h1 => exact dS_typ hU ihm ha h1 hN hso hoo hu hsl hpl hL hX hw hx hne
  | data h8 h => exact dS_data hU ihm h8 h hN hso hoo hu hsl hpl hL hX hw hx hne
  | str ha h => exact dS_str hU ihm ha h hN hso hoo hu hsl hpl hL hX hw hx hne
  | sg ha h1 => exact dS_sg hU ihm ha h1 hN hso hoo hu hsl hpl hL hX hw hx hne
  | ftor ha hb1 h1 h2 => exact dS_ftor hU ihm ha hb1 h1 h2 hN hso hoo hu hsl hpl hL hX hw hx hne
  | opn h => exact dS_opn hU ihm h hN hso hoo hu hsl hpl hL hX hw hx hne
  | inc h => exact dS_inc hU ihm h hN hso hoo hu hsl hpl hL hX hw hx hne
theorem modsS (U : List Str) (hU : U.length ≤ 30000000) : ∀ N, ModS W0 U N ∧ DeclS W0 U N
  | 0 => ⟨fun t s p o1 o2 H r w hN ht => by have := ht.pos; omega, fun t x p o2 H r rt w hN ht => by have := ht.pos; omega⟩
  | N + 1 => have ih := modsS U hU N; ⟨modS_step hU ih.1 ih.2, declS_step hU ih.1⟩
end Go.Av
