/-
  Go read by value: lemmas (part 31): N10.
-/
import Derived.Test.YtdeocbficanfaaaGreatDoorX30
set_option linter.unusedVariables false
set_option linter.unusedSimpArgs false
set_option linter.unusedSectionVars false
namespace Go.Av
open Go.Proofs
variable {W0 : World}
set_option maxRecDepth 10000
set_option maxHeartbeats 4000000
def ModB (W0 : World) (U : List Str) (N : Nat) : Prop := ∀ (t : Tr) (sc : List Sc) (s : List Bd) (p : Path) (o2 : Own) (H : Hp) (r : Nat) (w : Wk), t.cnt ≤ N → MdW t → SOK U s → SR sc s → InU U t → p.length + N ≤ 10000 → w.L.length + t.cnt ≤ 60000000 → w.X.length + U.length * t.cnt ≤ 60000000 → WKb H r w →
  SF Tryz.prog W0 66 [.ref r 0, scAV sc, t.av, .sl 1 (ints p) o2] H fun x H' => HR x (modW N s t p w).2 ∧ WKb H' r (modW N s t p w).1 ∧ Fr (· = r) H H'
def DeclB (W0 : World) (U : List Str) (N : Nat) : Prop := ∀ (t : Tr) (sc : List Sc) (x : Stt) (p : Path) (o2 : Own) (H : Hp) (r ro : Nat) (w : Wk), t.cnt ≤ N → DcW t → SOK U x.S → HsOK U x.Out → SR sc x.S → GvO H ro x.Out → InU U t → p.length + N ≤ 10000 → w.L.length + t.cnt ≤ 60000000 → w.X.length + U.length * t.cnt ≤ 60000000 → WKb H r w → ro ≠ r →
  SF Tryz.prog W0 36 [.ref r 0, scAV sc, t.av, .sl 1 (ints p) o2, .mref ro] H fun y H' => (∃ sc', y = scAV sc' ∧ SR sc' (declW N x t p w).2.S) ∧ GvO H' ro (declW N x t p w).2.Out ∧ WKb H' r (declW N x t p w).1 ∧ Fr (fun j => j = r ∨ j = ro) H H'
theorem GvO.set {H : Hp} {ro k : Nat} {o : List Hs} (h : GvO H ro o) (v : AObj) (hne : ro ≠ k) : GvO { H with objs := H.objs.set k v } ro o := let ⟨ks, vs, a, b⟩ := h; ⟨ks, vs, by simp only; rw [List.getElem?_set_ne (Ne.symm hne)]; exact a, b⟩
theorem WKb.put {H : Hp} {r k : Nat} {w : Wk} (h : WKb H r w) (v : AObj) (hne : r ≠ k) : WKb { H with objs := H.objs.set k v } r w := ⟨h.1.keep (by simp only; rw [List.getElem?_set_ne (Ne.symm hne)]) rfl, h.2⟩
theorem modB_step (hB : LibOK W0) {U : List Str} {N : Nat} (hU : U.length ≤ 30000000) (ihm : ModB W0 U N) (ihd : DeclB W0 U N) : ModB W0 U (N + 1) := by
  intro t sc s p o2 H r w hN ht hso hsr hu hpl hL hX hw
  have hU6 : U.length ≤ 60000000 := by omega
  have hlt := hw.lt
  cases ht with
  | @path n a b h =>
    rw [modW_path]
    simp only [Tr.cnt, Tr.cnts] at hN hL hX
    simp only [Tr.av]
    refine SF.cut (sf_start [8] 99 Tryz.func66 rfl rfl rfl (by decide) (by simp) ?_)
    repeat' first
      | refine aSq ?_ | refine aRt ?_ | refine aBl ?_ | refine tN ?_ | refine tR ?_ | refine iR ?_
      | (refine rg 3 ?_; refine tk 7 ?_; refine fc en68 ?_; refine (sf68 hB hso hsr (by omega) (by simp) h hw (by omega)).mono ?_; rintro x1 H1 ⟨hR, hwb, hfb⟩; refine tk 1 ?_; refine dn ?_)
      | refine ru ?_
      | (refine awp_if rfl (fun hb => ?_) (fun hb => ?_) <;> (try simp at hb) <;> try (exfalso; omega))
      | fail
    exact gsb_end hR hwb hlt (by simp [hfb.1]) (fun j _ hne => hfb.2 j hne)
  | @app n a b m h h1 =>
    rw [modW_app]
    have hug := hu.kids.head
    have hm2 : U.length * m.cnt ≤ U.length * (1 + (m.cnt + 0)) := mul_le _ (by omega)
    have hr := refer_L w s p [102] a
    have hrx := hr.2
    simp only [Tr.cnt, Tr.cnts] at hN hL hX
    simp only [Tr.av]
    refine SF.cut (sf_start [8] 99 Tryz.func66 rfl rfl rfl (by decide) (by simp) ?_)
    repeat' first
      | refine aSq ?_ | refine aRt ?_ | refine aBl ?_ | refine tN ?_ | refine tR ?_ | refine iR ?_
      | (refine rg 5 ?_; refine tk 7 ?_ (by simp (disch := omega) [Tr.avs]; with_reducible rfl); refine fc en68 ?_; refine (sf68 hB hso hsr (by omega) (by simp) h hw (by omega)).mono ?_; rintro x1 H1 ⟨hR, hwb, hfb⟩; refine tk 1 ?_ (by simp (disch := omega) [Tr.avs]; with_reducible rfl); refine dn ?_)
      | (refine dr 6 [(0, true), (1, true), (2, true), (3, true), (4, true), (5, true), (6, true), (7, true), (8, true), (9, false), (10, false)] [10] ?_; refine dh 5 ?_ (h := (by simp (disch := omega) [Tr.avs]; with_reducible rfl)); (first | (refine dh 1 ?_ (h := (by simp (disch := omega) [Tr.avs]; with_reducible rfl))) | (refine da 1 (fun _ => ?_) (h := (by simp (disch := omega) [Tr.avs]; with_reducible rfl)))); refine dh 1 ?_ (h := (by simp (disch := omega) [Tr.avs]; with_reducible rfl)); (first | (refine dh 1 ?_ (h := (by simp (disch := omega) [Tr.avs]; with_reducible rfl))) | (refine da 1 (fun _ => ?_) (h := (by simp (disch := omega) [Tr.avs]; with_reducible rfl)))); refine dh 1 ?_ (h := (by simp (disch := omega) [Tr.avs]; with_reducible rfl)); refine df en63 ?_; refine SF.then (sf63 (by omega)) ?_; refine ⟨.inr rfl, ?_⟩; refine df en66 ?_; refine (ihm m sc s (down p 0) .shut H1 r _ (by omega) h1 hso hsr hug (by rw [down_len]; omega) (by have := hr.1; omega) (by rw [hrx]; omega) hwb).mono ?_; rintro x2 H2 ⟨_, hwc, hfc⟩; refine ⟨.inl rfl, ?_⟩; refine adr_nil ?_)
      | (refine ru ?_ (by simp (disch := omega) [Tr.avs]; with_reducible rfl))
      | (refine awp_if rfl (fun hb => ?_) (fun hb => ?_) <;> (try simp at hb) <;> try (exfalso; omega))
      | fail
    have hf := hfb.trans hfc
    exact gsb_end hR hwc hlt (by simp [hf.1]) (fun j _ hne => hf.2 j hne)
  | @sealM n a b m g h1 h2 =>
    rw [modW_seal]
    have hum := hu.kids.head
    have hug := hu.kids.tail.head
    have hm2 : U.length * m.cnt ≤ U.length * (1 + (m.cnt + (g.cnt + 0))) := mul_le _ (by omega)
    obtain ⟨l1, q1⟩ := (mods_ok U N).1 s m (down p 0) w h1 hso hum (by rw [down_len]; omega)
    simp only [Tr.cnt, Tr.cnts] at hN hL hX
    simp only [Tr.av]
    refine SF.cut (sf_start [8] 99 Tryz.func66 rfl rfl rfl (by decide) (by simp) ?_)
    repeat' first
      | refine aSq ?_ | refine aRt ?_ | refine aBl ?_ | refine tN ?_ | refine tR ?_ | refine iR ?_
      | (refine dr 9 [(0, true), (1, true), (2, true), (3, true), (4, true), (5, true), (6, true), (7, true), (8, true), (9, false), (10, false)] [10] ?_; refine dh 5 ?_ (h := (by simp (disch := omega) [Tr.avs]; with_reducible rfl)); (first | (refine dh 1 ?_ (h := (by simp (disch := omega) [Tr.avs]; with_reducible rfl))) | (refine da 1 (fun _ => ?_) (h := (by simp (disch := omega) [Tr.avs]; with_reducible rfl)))); refine dh 1 ?_ (h := (by simp (disch := omega) [Tr.avs]; with_reducible rfl)); (first | (refine dh 1 ?_ (h := (by simp (disch := omega) [Tr.avs]; with_reducible rfl))) | (refine da 1 (fun _ => ?_) (h := (by simp (disch := omega) [Tr.avs]; with_reducible rfl)))); refine dh 1 ?_ (h := (by simp (disch := omega) [Tr.avs]; with_reducible rfl)); refine df en63 ?_; refine SF.then (sf63 (by omega)) ?_; refine ⟨.inr rfl, ?_⟩; refine df en66 ?_; refine (ihm m sc s (down p 0) .shut H r w (by omega) h1 hso hsr hum (by rw [down_len]; omega) (by omega) (by omega) hw).mono ?_; rintro x1 H1 ⟨_, hwb, hfb⟩; refine ⟨.inl rfl, ?_⟩; refine adr_nil ?_)
      | (refine dr 10 [(0, true), (1, true), (2, true), (3, true), (4, true), (5, true), (6, true), (7, true), (8, true), (9, false), (10, false), (11, false)] [10, 11] ?_; refine dh 5 ?_ (h := (by simp (disch := omega) [Tr.avs]; with_reducible rfl)); (first | (refine dh 1 ?_ (h := (by simp (disch := omega) [Tr.avs]; with_reducible rfl))) | (refine da 1 (fun _ => ?_) (h := (by simp (disch := omega) [Tr.avs]; with_reducible rfl)))); refine dh 1 ?_ (h := (by simp (disch := omega) [Tr.avs]; with_reducible rfl)); (first | (refine dh 1 ?_ (h := (by simp (disch := omega) [Tr.avs]; with_reducible rfl))) | (refine da 1 (fun _ => ?_) (h := (by simp (disch := omega) [Tr.avs]; with_reducible rfl)))); refine dh 1 ?_ (h := (by simp (disch := omega) [Tr.avs]; with_reducible rfl)); refine df en63 ?_; refine SF.then (sf63 (by omega)) ?_; refine ⟨.inr rfl, ?_⟩; refine df en70 ?_; refine ((sigsB hB U hU N).1 g sc s (down p 1) .shut H1 r _ (by omega) h2 hso hsr hug (by rw [down_len]; omega) (by have := l1.1; omega) hwb).mono ?_; rintro x2 H2 ⟨hR, hwc, hfc⟩; refine ⟨.inl rfl, ?_⟩; refine dx ?_ (h := (by simp (disch := omega) [Tr.avs]; with_reducible rfl)))
      | (refine ru ?_ (by simp (disch := omega) [Tr.avs]; with_reducible rfl))
      | (refine awp_if rfl (fun hb => ?_) (fun hb => ?_) <;> (try simp at hb) <;> try (exfalso; omega))
      | fail
    have hf := hfb.trans hfc
    exact gsb_end hR hwc hlt (by simp [hf.1]) (fun j _ hne => hf.2 j hne)
  | @body n a b l hl =>
    rw [modW_body]
    have hll := pos_len fun t ht => (hl t ht).pos
    have hul := hu.kids
    simp only [Tr.cnt] at hN hL hX
    have hme2 : U.length * (1 + Tr.cnts l) = U.length + U.length * Tr.cnts l := by rw [Nat.mul_add, Nat.mul_one]
    simp only [Tr.av]
    obtain ⟨fin, hfin⟩ : ∃ fin, foldK (declF N p) 0 l (w, ⟨s, []⟩) = fin := ⟨_, rfl⟩
    rw [hfin]
    refine SF.cut (sf_start [8] 99 Tryz.func66 rfl rfl rfl (by decide) (by simp) ?_)
    repeat' first
      | refine aSq ?_ | refine aSk ?_ | refine aBl ?_ | refine tN ?_
      | refine ru ?_
      | (refine awp_if rfl (fun hb => ?_) (fun hb => ?_) <;> (try simp at hb) <;> try (exfalso; omega))
      | fail
    refine awp_loop_inv (fun q st => ∃ (i : Nat) (cur : Wk × Stt) (Hc : Hp) (sc' : List Sc), q = l.length - i ∧ i ≤ l.length ∧ foldK (declF N p) i (l.drop i) cur = fin ∧ LenX U w cur.1 (Tr.cnts (l.take i)) ∧ SttOK U ⟨s, []⟩ cur.2 (Tr.cnts (l.take i)) ∧ WKb Hc r cur.1 ∧ SR sc' cur.2.S ∧ GvO Hc H.objs.length cur.2.Out ∧
      Hc.objs.length = H.objs.length + 1 ∧ (∀ j, j < H.objs.length → j ≠ r → Hc.objs[j]? = H.objs[j]?) ∧
      Sub st ⟨99, [(0, .ref r 0), (1, scAV sc'), (3, .sl 1 (ints p) o2), (10, .mref H.objs.length), (77, .sl 1 (Tr.avs l) .shut), (78, .int .i64 l.length), (79, .int .i64 i)], Hc⟩) l.length
      ⟨0, (w, ⟨s, []⟩), ⟨H.objs ++ [.map [] []], H.hi⟩, sc, by simp, by simp, hfin, .refl _ _ _, .refl hso .nil _, hw.more _, hsr, ⟨[], [], by simp, .nil⟩, by simp, fun j hj _ => List.getElem?_append_left hj, sb⟩ ?_
    clear hfin hw hsr
    rintro q st ⟨i, cur, Hc, sc', rfl, hi, hfo, hlo, hst, hwc, hsc, hgc, hlc, hfc, hs2⟩
    refine awp_sub hs2 ?_
    clear hs2 st
    repeat' first
      | refine aSq ?_ | refine aRt ?_ | refine aSk ?_ | refine aEx ?_ | refine aBl ?_ | refine tN ?_
      | (refine rg 15 ?_; refine tk 5 ?_; refine fc en63 ?_; refine SF.then (sf63 (by omega)) ?_; refine tk 1 ?_; refine fc en36 ?_; (have hlt : i < l.length := by assumption); (have q1 := Tr.cnts_take l i hlt); (have q2 := Tr.cnts_take_le l (i + 1)); (have q3 := Tr.cnts_le l i hlt); (have m3 : U.length * Tr.cnts (l.take (i + 1)) = U.length * Tr.cnts (l.take i) + U.length * l[i].cnt := by rw [q1, Nat.mul_add]); (have m4 := mul_le U.length q2); (have h1 := hlo.1); (have h2 := hlo.2); (have q4 := (mods_ok U N).2 cur.2 l[i] (down p i) cur.1 (hl _ (List.getElem_mem hlt)) hst.s hst.o (hul.mem _ (List.getElem_mem hlt)) (by rw [down_len]; omega)); refine (ihd l[i] sc' cur.2 (down p i) .shut Hc r H.objs.length cur.1 (by omega) (hl _ (List.getElem_mem hlt)) hst.s hst.o hsc hgc (hul.mem _ (List.getElem_mem hlt)) (by rw [down_len]; omega) (by omega) (by omega) hwc (by omega)).mono ?_; rintro x1 H2 ⟨⟨sc2, rfl, hsd⟩, hgd, hwb, hfb⟩; refine tk 1 ?_; refine dn ?_)
      | (refine rg 17 ?_; (have hil : i = l.length := by omega); subst hil; rw [foldK_end _ (Nat.le_refl _)] at hfo; subst hfo; rw [List.take_length] at hlo hst; have hx1 := hlo.2; have hol := hst.o.len; refine tk 3 ?_; refine fc en37 ?_; obtain ⟨ks0, vs0, hob0, hgr0⟩ := id hgc; refine (sf37 hB hgr0.gvl hob0 hst.o.nodup hst.o.lo hst.o.hi hst.o.site (by omega) (by omega) (by omega) hwc (by omega)).mono ?_; rintro x1 H2 ⟨rfl, hwb, hfb⟩; have hgd : GvO H2 H.objs.length cur.2.Out := hgc.fr hfb (by omega); refine dn ?_)
      | (refine (show AWP Tryz.prog W0 (Code.region 18 _ _) _ _ from ?_); obtain ⟨ks, vs, hob, hgr⟩ := hgd; refine awp_only [(10, .mref H.objs.length)] (only_cons (by simp) only_nil) ?_; refine awp_freeze H.objs.length [(10, .mapv ks vs)] hob (.cons (.map _ _ rfl) .nil) ?_; refine rg 18 ?_; refine tk 1 ?_; refine fc en105 ?_; refine (sf105 hgr).mono ?_; rintro x1 H3 ⟨rfl, hR⟩; refine tk 1 ?_; refine dn ?_)
      | refine ru ?_
      | (refine awp_if rfl (fun hb => ?_) (fun hb => ?_) <;> (try simp at hb) <;> try (exfalso; omega))
      | fail
    · rw [foldK_drop _ hlt] at hfo
      exact ⟨l.length - (i + 1), by omega, i + 1, _, H2, sc2, rfl, by omega, hfo, by rw [q1]; exact hlo.trans q4.1, by rw [q1]; exact hst.trans q4.2, hwb, hsd, hgd, by rw [hfb.1, hlc], fun j hj hne => (hfb.2 j (by omega)).trans (hfc j hj hne), sb⟩
    · exact gsb_end hR ⟨hwb.1.keep (by simp only; rw [List.getElem?_set_ne (by omega)]) rfl, hwb.2⟩ (by assumption) (by simp [hfb.1]; omega) (fun j hj hne => by simp only; rw [List.getElem?_set_ne (by omega)]; exact (hfb.2 j (by omega)).trans (hfc j hj hne))
end Go.Av
