/-
  Go read by value: lemmas (part 30): N7, N8, N9.
-/
import Derived.Test.YtdeocbficanfaaaGreatDoorX21
import Derived.Test.YtdeocbficanfaaaGreatDoorX29
set_option linter.unusedVariables false
set_option linter.unusedSimpArgs false
set_option linter.unusedSectionVars false
namespace Go.Av
open Go.Proofs
variable {W0 : World}
set_option maxRecDepth 10000
set_option maxHeartbeats 4000000
def mu83 : TypeId → Bool := fun t => t == 83
@[simp] theorem mu83_eq (t : TypeId) : mu83 t = (t == 83) := rfl
theorem gsb_end {H Hc : Hp} {r : Nat} {w : Wk} {v : AV} {y : List Hs} (hv : HR v y) (hw : WKb Hc r w) (hr : r < H.objs.length) (hlen : H.objs.length ≤ Hc.objs.length) (hf : ∀ j, j < H.objs.length → j ≠ r → Hc.objs[j]? = H.objs[j]?) :
    ∃ m, H.hi.length ≤ m ∧ (H.objs.map (clnO H.objs.length m) = H.objs → (HR (cln H.objs.length m v) y ∧ WKb ⟨(Hc.objs.take H.objs.length).map (clnO H.objs.length m), Hc.hi.take m⟩ r w ∧ Fr (· = r) H ⟨(Hc.objs.take H.objs.length).map (clnO H.objs.length m), Hc.hi.take m⟩)) :=
  ⟨max H.hi.length Hc.hi.length, Nat.le_max_left _ _, fun hold => ⟨(hv.data _ _).symm ▸ hv, ⟨wko_end hw.1 hr (Nat.le_max_right _ _), hw.2⟩, fr_end hlen hf hold _⟩⟩
theorem gvo_end {Hc : Hp} {n m ro : Nat} {o : List Hs} (h : GvO Hc ro o) (hr : ro < n) : GvO ⟨(Hc.objs.take n).map (clnO n m), Hc.hi.take m⟩ ro o := by
  obtain ⟨ks, vs, h1, h2⟩ := h
  refine ⟨ks, vs, ?_, h2⟩
  simp only [List.getElem?_map, List.getElem?_take, hr, if_true, h1]
  simp [clnO, h2.gvl.data _ _]
theorem spb_end {H Hc : Hp} {r ro : Nat} {w : Wk} {sc : List Sc} {x : Stt} (hs : SR sc x.S) (ho : GvO Hc ro x.Out) (hw : WKb Hc r w) (hr : r < H.objs.length) (hro : ro < H.objs.length) (hlen : H.objs.length ≤ Hc.objs.length) (hf : ∀ j, j < H.objs.length → ¬ (j = r ∨ j = ro) → Hc.objs[j]? = H.objs[j]?) :
    ∃ m, H.hi.length ≤ m ∧ (H.objs.map (clnO H.objs.length m) = H.objs → ((∃ sc', cln H.objs.length m (scAV sc) = scAV sc' ∧ SR sc' x.S) ∧ GvO ⟨(Hc.objs.take H.objs.length).map (clnO H.objs.length m), Hc.hi.take m⟩ ro x.Out ∧ WKb ⟨(Hc.objs.take H.objs.length).map (clnO H.objs.length m), Hc.hi.take m⟩ r w ∧ Fr (fun j => j = r ∨ j = ro) H ⟨(Hc.objs.take H.objs.length).map (clnO H.objs.length m), Hc.hi.take m⟩)) :=
  ⟨max H.hi.length Hc.hi.length, Nat.le_max_left _ _, fun hold => ⟨⟨sc, scAV_data hs.ok _ _, hs⟩, gvo_end ho hro, ⟨wko_end hw.1 hr (Nat.le_max_right _ _), hw.2⟩, fr_end hlen hf hold _⟩⟩
theorem GvO.lt {H : Hp} {ro : Nat} {o : List Hs} (h : GvO H ro o) : ro < H.objs.length := let ⟨_, _, h, _⟩ := h; obj_lt h
theorem GvO.fr {H H' : Hp} {ro : Nat} {o : List Hs} {P : Nat → Prop} (h : GvO H ro o) (hf : Fr P H H') (hp : ¬ P ro) : GvO H' ro o := let ⟨ks, vs, a, b⟩ := h; ⟨ks, vs, (hf.2 _ hp).trans a, b⟩
theorem GvO.more {H : Hp} {ro : Nat} {o : List Hs} (h : GvO H ro o) (l : List AObj) (hi : List Nat) : GvO ⟨H.objs ++ l, hi⟩ ro o := let ⟨ks, vs, a, b⟩ := h; ⟨ks, vs, by simp only; rw [List.getElem?_append_left (obj_lt a)]; exact a, b⟩
theorem WKb.more {H : Hp} {r : Nat} {w : Wk} (h : WKb H r w) (l : List AObj) : WKb ⟨H.objs ++ l, H.hi⟩ r w := ⟨h.1.keep (by simp only; rw [List.getElem?_append_left h.lt]) rfl, h.2⟩
def SigB (W0 : World) (U : List Str) (N : Nat) : Prop := ∀ (t : Tr) (sc : List Sc) (s : List Bd) (p : Path) (o2 : Own) (H : Hp) (r : Nat) (w : Wk), t.cnt ≤ N → SgW t → SOK U s → SR sc s → InU U t → p.length + N ≤ 10000 → w.L.length + t.cnt ≤ 60000000 → WKb H r w →
  SF Tryz.prog W0 70 [.ref r 0, scAV sc, t.av, .sl 1 (ints p) o2] H fun x H' => HR x (sigW N s t p w).2 ∧ WKb H' r (sigW N s t p w).1 ∧ Fr (· = r) H H'
def SpecB (W0 : World) (U : List Str) (N : Nat) : Prop := ∀ (t : Tr) (sc : List Sc) (x : Stt) (p : Path) (o2 : Own) (H : Hp) (r ro : Nat) (w : Wk), t.cnt ≤ N → SpW t → SOK U x.S → HsOK U x.Out → SR sc x.S → GvO H ro x.Out → InU U t → p.length + N ≤ 10000 → w.L.length + t.cnt ≤ 60000000 → WKb H r w → ro ≠ r →
  SF Tryz.prog W0 108 [.ref r 0, scAV sc, t.av, .sl 1 (ints p) o2, .mref ro] H fun y H' => (∃ sc', y = scAV sc' ∧ SR sc' (specW N x t p w).2.S) ∧ GvO H' ro (specW N x t p w).2.Out ∧ WKb H' r (specW N x t p w).1 ∧ Fr (fun j => j = r ∨ j = ro) H H'
theorem specB_val (hB : LibOK W0) {U : List Str} {N : Nat} (hU : U.length ≤ 30000000) {n : Int} {a b : Str} {t : Tr} (sc : List Sc) (x : Stt) (p : Path) (o2 : Own) (H : Hp) (r ro : Nat) (w : Wk) (hN : (Tr.node 60 n a b [t]).cnt ≤ N + 1) (ha : a.length ≤ 128) (h : TyW t) (hso : SOK U x.S) (hsr : SR sc x.S) (hg : GvO H ro x.Out) (hu : InU U (Tr.node 60 n a b [t])) (hpl : p.length + (N + 1) ≤ 10000) (hL : w.L.length + (Tr.node 60 n a b [t]).cnt ≤ 60000000) (hw : WKb H r w) (hne : ro ≠ r) :
    SF Tryz.prog W0 108 [.ref r 0, scAV sc, (Tr.node 60 n a b [t]).av, .sl 1 (ints p) o2, .mref ro] H fun y H' => (∃ sc', y = scAV sc' ∧ SR sc' (specW (N + 1) x (Tr.node 60 n a b [t]) p w).2.S) ∧ GvO H' ro (specW (N + 1) x (Tr.node 60 n a b [t]) p w).2.Out ∧ WKb H' r (specW (N + 1) x (Tr.node 60 n a b [t]) p w).1 ∧ Fr (fun j => j = r ∨ j = ro) H H' := by
  have hU6 : U.length ≤ 60000000 := by omega
  rw [specW_val]
  have hlt := hw.lt
  have hlo := hg.lt
  have hwB := hw.more [.cells [scAV sc]]
  have hxB : StB ⟨H.objs ++ [.cells [scAV sc]], H.hi⟩ H.objs.length ro x := ⟨⟨sc, by simp, hsr⟩, hg.more _ _⟩
  have hen := en150
  simp only [Tr.cnt, Tr.cnts] at hN hL
  simp only [Tr.av]
  refine SF.cut (sf_start [10] 112 Tryz.func108 rfl rfl rfl (by decide) (by simp) ?_)
  repeat' first
    | refine aSq ?_ | refine aBl ?_ | refine tN ?_
    | (refine rg 0 ?_; refine aops_take 4 (mu := mu83) tab_ok (by simp; with_reducible rfl) ?_; refine dn ?_)
    | (refine dr 4 [(0, true), (1, true), (2, true), (3, true), (4, true), (5, true), (6, true), (7, true), (8, true), (9, false), (10, false)] [10] ?_; refine dh 1 ?_ (h := (by simp (disch := omega) [Tr.avs, small_if]; with_reducible rfl)); (first | (refine dh 1 ?_ (h := (by simp (disch := omega) [Tr.avs, small_if]; with_reducible rfl))) | (refine da 1 (fun _ => ?_) (h := (by simp (disch := omega) [Tr.avs, small_if]; with_reducible rfl)))); refine dh 3 ?_ (h := (by simp (disch := omega) [Tr.avs, small_if]; with_reducible rfl)); (first | (refine dh 1 ?_ (h := (by simp (disch := omega) [Tr.avs, small_if]; with_reducible rfl))) | (refine da 1 (fun _ => ?_) (h := (by simp (disch := omega) [Tr.avs, small_if]; with_reducible rfl)))); refine dh 1 ?_ (h := (by simp (disch := omega) [Tr.avs, small_if]; with_reducible rfl)); (first | (refine dh 1 ?_ (h := (by simp (disch := omega) [Tr.avs, small_if]; with_reducible rfl))) | (refine da 1 (fun _ => ?_) (h := (by simp (disch := omega) [Tr.avs, small_if]; with_reducible rfl)))); (first | (refine dh 1 ?_ (h := (by simp (disch := omega) [Tr.avs, small_if]; with_reducible rfl))) | (refine da 1 (fun _ => ?_) (h := (by simp (disch := omega) [Tr.avs, small_if]; with_reducible rfl)))); refine df en63 ?_; refine SF.then (sf63 (by omega)) ?_; refine ⟨.inr rfl, ?_⟩; refine df en62 ?_; refine (sf62 hB hU6 N t sc x.S (down p 0) .shut _ r w (by omega) h hso hsr (by rw [down_len]; omega) (by omega) hwB).mono ?_; rintro x1 H1 ⟨rfl, hwb, hfb⟩; have hx1 : StB H1 H.objs.length ro x := hxB.fr hfb (by omega) hne; refine ⟨.inl rfl, ?_⟩; refine adr_nil ?_)
    | (refine rg 5 ?_; refine tk 6 ?_ (by simp (disch := omega) [Tr.avs, small_if]; with_reducible rfl); refine aops_val rfl rfl rfl rfl rfl (by assumption) (by simp; rfl) ?_; refine (put150 x (118 :: 58 :: a) p o2 .mnil [] H1 H.objs.length ro hx1 .nil (by omega)).mono ?_; rintro x1 H2 ⟨rfl, hxc, hfc, hic⟩; refine dn ?_)
    | (refine ru ?_ (by simp (disch := omega) [Tr.avs, small_if]; with_reducible rfl))
    | (refine awp_if rfl (fun hb => ?_) (fun hb => ?_) <;> (try simp at hb) <;> try (exfalso; omega))
    | fail
  obtain ⟨⟨sc', h6, hs'⟩, hg'⟩ := hxc
  have hl2 : H.objs.length ≤ H2.objs.length := by have e1 := hfb.1; have e2 := hfc.1; simp only [List.length_append, List.length_singleton] at e1 e2; omega
  repeat' first
    | refine aRt ?_
    | (refine ru ?_ (by simp (disch := omega) [h6]; with_reducible rfl))
    | fail
  exact spb_end (x := x.put (118 :: 58 :: a) p []) hs' hg' (hwb.keep hfc (fun q => by rcases q with q | q <;> omega) hic) hlt hlo hl2 (fun j hj hn => ((hfc.2 j (fun q => by rcases q with q | q; omega; exact hn (.inr q))).trans (hfb.2 j (fun q => hn (.inl q)))).trans (List.getElem?_append_left hj))
theorem specW_typs (N : Nat) (x : Stt) (n : Int) (a b : Str) (l : List Tr) (p : Path) (w : Wk) : specW (N + 1) x (.node 61 n a b l) p w = (foldK (fun i k w => typW N x.S k (down p i) w) 0 l w, x.put (116 :: 58 :: a) p []) := by simp [specW, Tr.kind, Tr.kids, Tr.name]
theorem specB_typs (hB : LibOK W0) {U : List Str} {N : Nat} (hU : U.length ≤ 30000000) {n : Int} {a b : Str} {l : List Tr} (sc : List Sc) (x : Stt) (p : Path) (o2 : Own) (H : Hp) (r ro : Nat) (w : Wk) (hN : (Tr.node 61 n a b l).cnt ≤ N + 1) (ha : a.length ≤ 128) (h : ∀ t ∈ l, TyW t) (hso : SOK U x.S) (hsr : SR sc x.S) (hg : GvO H ro x.Out) (hu : InU U (Tr.node 61 n a b l)) (hpl : p.length + (N + 1) ≤ 10000) (hL : w.L.length + (Tr.node 61 n a b l).cnt ≤ 60000000) (hw : WKb H r w) (hne : ro ≠ r) :
    SF Tryz.prog W0 108 [.ref r 0, scAV sc, (Tr.node 61 n a b l).av, .sl 1 (ints p) o2, .mref ro] H fun y H' => (∃ sc', y = scAV sc' ∧ SR sc' (specW (N + 1) x (Tr.node 61 n a b l) p w).2.S) ∧ GvO H' ro (specW (N + 1) x (Tr.node 61 n a b l) p w).2.Out ∧ WKb H' r (specW (N + 1) x (Tr.node 61 n a b l) p w).1 ∧ Fr (fun j => j = r ∨ j = ro) H H' := by
  have hU6 : U.length ≤ 60000000 := by omega
  rw [specW_typs]
  have hlt := hw.lt
  have hlo := hg.lt
  have hwB := hw.more [.cells [scAV sc]]
  have hxB : StB ⟨H.objs ++ [.cells [scAV sc]], H.hi⟩ H.objs.length ro x := ⟨⟨sc, by simp, hsr⟩, hg.more _ _⟩
  have hen := en150
  simp only [Tr.cnt] at hN hL
  have hll := pos_len fun t ht => (h t ht).pos
  simp only [Tr.av]
  obtain ⟨fin, hfin⟩ : ∃ fin, foldK (fun i k w => typW N x.S k (down p i) w) 0 l w = fin := ⟨_, rfl⟩
  rw [hfin]
  refine SF.cut (sf_start [10] 112 Tryz.func108 rfl rfl rfl (by decide) (by simp) ?_)
  repeat' first
    | refine aSq ?_ | refine aBl ?_ | refine tN ?_
    | (refine rg 0 ?_; refine aops_take 4 (mu := mu83) tab_ok (by simp; with_reducible rfl) ?_; refine dn ?_)
    | (refine ru ?_ (by simp (disch := omega) [small_if]; with_reducible rfl))
    | (refine awp_if rfl (fun hb => ?_) (fun hb => ?_) <;> (try simp at hb) <;> try (exfalso; omega))
    | fail
  refine awp_loop_inv (fun q st => ∃ (i : Nat) (cur : Wk) (Hc : Hp), q = l.length - i ∧ i ≤ l.length ∧ foldK (fun i t w => typW N x.S t (down p i) w) i (l.drop i) cur = fin ∧ cur.L.length ≤ w.L.length + 1 + Tr.cnts (l.take i) ∧ WKb Hc r cur ∧ Fr (· = r) ⟨H.objs ++ [.cells [scAV sc]], H.hi⟩ Hc ∧
    Sub st ⟨112, [(0, .ref r 0), (2, .ptr [.int .i64 61, .int .i64 n, .str a, .str b, .sl 1 (Tr.avs l) .shut]), (6, .ref H.objs.length 0), (8, .ptr [.sl 1 (ints p) o2]), (11, .fn 150 [.ref H.objs.length 0, .ptr [.sl 1 (ints p) o2], .ptr [.mref ro]]), (44, .sl 1 (Tr.avs l) .shut), (45, .int .i64 l.length), (46, .int .i64 i)], Hc⟩) l.length
    ⟨0, w, ⟨H.objs ++ [.cells [scAV sc]], H.hi⟩, by simp, by simp, hfin, by simp [Tr.cnts], hwB, Fr.refl _, sb⟩ ?_
  clear hfin hwB
  rintro q st ⟨i, cur, Hc, rfl, hi, hfo, hcl, hwc, hfb, hs2⟩
  refine awp_sub hs2 ?_
  clear hs2 st
  have hx1 : StB Hc H.objs.length ro x := hxB.fr hfb (by omega) hne
  obtain ⟨⟨sc0, h60, hs0⟩, -⟩ := id hx1
  repeat' first
    | refine aSq ?_ | refine aSk ?_ | refine aEx ?_ | refine aBl ?_ | refine tN ?_ | refine tE ?_
    | (refine dr 10 [(0, true), (1, true), (2, true), (3, true), (4, true), (5, false), (6, false)] [6] ?_; refine da 5 (fun _ => ?_) (h := (by simp (disch := omega) [small_if, h60]; with_reducible rfl)); refine df en63 ?_; refine SF.then (sf63 (by omega)) ?_; refine ⟨.inr rfl, ?_⟩; refine df en62 ?_; (have hlt2 : i < l.length := by assumption); (have q1 := Tr.cnts_take l i hlt2); (have q2 := Tr.cnts_take_le l (i + 1)); (have q3 := Tr.cnts_le l i hlt2); (have q4 := typW_len N x.S l[i] (down p i) cur); refine (sf62 hB hU6 N l[i] sc0 x.S (down p i) .shut Hc r cur (by omega) (h _ (List.getElem_mem hlt2)) hso hs0 (by rw [down_len]; omega) (by omega) hwc).mono ?_; rintro x1 H2 ⟨rfl, hwb, hfb2⟩; refine ⟨.inl rfl, ?_⟩; refine adr_nil ?_)
    | (refine rg 12 ?_; refine tk 6 ?_ (by simp (disch := omega) [small_if, h60]; with_reducible rfl); refine aops_val rfl rfl rfl rfl rfl (by assumption) (by simp; rfl) ?_; refine (put150 x (116 :: 58 :: a) p o2 .mnil [] Hc H.objs.length ro hx1 .nil (by omega)).mono ?_; rintro x1 H2 ⟨rfl, hxc, hfc, hic⟩; refine dn ?_)
    | (refine ru ?_ (by simp (disch := omega) [small_if, h60]; with_reducible rfl))
    | (refine awp_if rfl (fun hb => ?_) (fun hb => ?_) <;> (try simp at hb) <;> try (exfalso; omega))
    | fail
  · rw [foldK_drop _ hlt2] at hfo
    exact ⟨l.length - (i + 1), by omega, i + 1, _, H2, rfl, by omega, hfo, by have := q4.1; omega, hwb, hfb.trans hfb2, sb⟩
  rw [foldK_end _ (by omega)] at hfo
  subst hfo
  obtain ⟨⟨sc', h6, hs'⟩, hg'⟩ := hxc
  have hl2 : H.objs.length ≤ H2.objs.length := by have e1 := hfb.1; have e2 := hfc.1; simp only [List.length_append, List.length_singleton] at e1 e2; omega
  repeat' first
    | refine aRt ?_
    | (refine ru ?_ (by simp (disch := omega) [h6]; with_reducible rfl))
    | fail
  exact spb_end (x := x.put (116 :: 58 :: a) p []) hs' hg' (hwc.keep hfc (fun q => by rcases q with q | q <;> omega) hic) hlt hlo hl2 (fun j hj hn => ((hfc.2 j (fun q => by rcases q with q | q; omega; exact hn (.inr q))).trans (hfb.2 j (fun q => hn (.inl q)))).trans (List.getElem?_append_left hj))
theorem specB_data (hB : LibOK W0) {U : List Str} {N : Nat} (hU : U.length ≤ 30000000) {n : Int} {a b : Str} {l : List Tr} (sc : List Sc) (x : Stt) (p : Path) (o2 : Own) (H : Hp) (r ro : Nat) (w : Wk) (hN : (Tr.node 62 n a b l).cnt ≤ N + 1) (h8 : ∀ t ∈ l, t.kind = 8) (h : TyW (.node 62 n a b l)) (hso : SOK U x.S) (hsr : SR sc x.S) (hg : GvO H ro x.Out) (hu : InU U (Tr.node 62 n a b l)) (hpl : p.length + (N + 1) ≤ 10000) (hL : w.L.length + (Tr.node 62 n a b l).cnt ≤ 60000000) (hw : WKb H r w) (hne : ro ≠ r) :
    SF Tryz.prog W0 108 [.ref r 0, scAV sc, (Tr.node 62 n a b l).av, .sl 1 (ints p) o2, .mref ro] H fun y H' => (∃ sc', y = scAV sc' ∧ SR sc' (specW (N + 1) x (Tr.node 62 n a b l) p w).2.S) ∧ GvO H' ro (specW (N + 1) x (Tr.node 62 n a b l) p w).2.Out ∧ WKb H' r (specW (N + 1) x (Tr.node 62 n a b l) p w).1 ∧ Fr (fun j => j = r ∨ j = ro) H H' := by
  have hU6 : U.length ≤ 60000000 := by omega
  rw [specW_data]
  have hlt := hw.lt
  have hlo := hg.lt
  have hwB := hw.more [.cells [scAV sc]]
  have hxB : StB ⟨H.objs ++ [.cells [scAV sc]], H.hi⟩ H.objs.length ro x := ⟨⟨sc, by simp, hsr⟩, hg.more _ _⟩
  have hen := en150
  have h65 := sf65 (W0 := W0) (o2 := o2) (o3 := o2) (p := p) hB en150 put150 hU6 hN h h8 hso hsr (by omega) (by omega) hwB hxB (by omega) (by omega) hne
  simp only [Tr.av] at h65 ⊢
  refine SF.cut (sf_start [10] 112 Tryz.func108 rfl rfl rfl (by decide) (by simp) ?_)
  repeat' first
    | refine aSq ?_ | refine aBl ?_ | refine tN ?_
    | (refine rg 0 ?_; refine aops_take 4 (mu := mu83) tab_ok (by simp; with_reducible rfl) ?_; refine dn ?_)
    | (refine rg 14 ?_; refine tk 5 ?_ (by simp (disch := omega) [small_if]; with_reducible rfl); refine fc en65 ?_; refine h65.mono ?_; rintro x1 H2 ⟨rfl, hwb, hxc, hfc⟩; refine dn ?_)
    | (refine ru ?_ (by simp (disch := omega) [small_if]; with_reducible rfl))
    | (refine awp_if rfl (fun hb => ?_) (fun hb => ?_) <;> (try simp at hb) <;> try (exfalso; omega))
    | fail
  obtain ⟨⟨sc', h6, hs'⟩, hg'⟩ := hxc
  have hl2 : H.objs.length ≤ H2.objs.length := by have e2 := hfc.1; simp only [List.length_append, List.length_singleton] at e2; omega
  repeat' first
    | refine aRt ?_
    | (refine ru ?_ (by simp (disch := omega) [h6]; with_reducible rfl))
    | fail
  exact spb_end (x := (dataW (N + 1) x (.node 62 n a b l) p w).2) hs' hg' hwb hlt hlo hl2 (fun j hj hn => (hfc.2 j (fun q => by rcases q with q | q | q; exact hn (.inl q); omega; exact hn (.inr q))).trans (List.getElem?_append_left hj))
theorem specB_share (hB : LibOK W0) {U : List Str} {N : Nat} (hU : U.length ≤ 30000000) {n : Int} {a b : Str} {t : Tr} (sc : List Sc) (x : Stt) (p : Path) (o2 : Own) (H : Hp) (r ro : Nat) (w : Wk) (hN : (Tr.node 65 n a b []).cnt ≤ N + 1)  (hso : SOK U x.S) (hsr : SR sc x.S) (hg : GvO H ro x.Out) (hu : InU U (Tr.node 65 n a b [])) (hpl : p.length + (N + 1) ≤ 10000) (hL : w.L.length + (Tr.node 65 n a b []).cnt ≤ 60000000) (hw : WKb H r w) (hne : ro ≠ r) :
    SF Tryz.prog W0 108 [.ref r 0, scAV sc, (Tr.node 65 n a b []).av, .sl 1 (ints p) o2, .mref ro] H fun y H' => (∃ sc', y = scAV sc' ∧ SR sc' (specW (N + 1) x (Tr.node 65 n a b []) p w).2.S) ∧ GvO H' ro (specW (N + 1) x (Tr.node 65 n a b []) p w).2.Out ∧ WKb H' r (specW (N + 1) x (Tr.node 65 n a b []) p w).1 ∧ Fr (fun j => j = r ∨ j = ro) H H' := by
  have hU6 : U.length ≤ 60000000 := by omega
  rw [specW_share]
  have hlt := hw.lt
  have hlo := hg.lt
  have hwB := hw.more [.cells [scAV sc]]
  have hxB : StB ⟨H.objs ++ [.cells [scAV sc]], H.hi⟩ H.objs.length ro x := ⟨⟨sc, by simp, hsr⟩, hg.more _ _⟩
  have hen := en150
  simp only [Tr.av]
  refine SF.cut (sf_start [10] 112 Tryz.func108 rfl rfl rfl (by decide) (by simp) ?_)
  repeat' first
    | refine aSq ?_ | refine aRt ?_ | refine aSk ?_ | refine aBl ?_ | refine tN ?_
    | (refine rg 0 ?_; refine aops_take 4 (mu := mu83) tab_ok (by simp; with_reducible rfl) ?_; refine dn ?_)
    | refine ru ?_
    | (refine awp_if rfl (fun hb => ?_) (fun hb => ?_) <;> (try simp at hb) <;> try (exfalso; omega))
    | fail
  exact spb_end (x := x) hsr (hg.more _ _) hwB hlt hlo (by simp) (fun j hj hn => List.getElem?_append_left hj)
theorem specB_str (hB : LibOK W0) {U : List Str} {N : Nat} (hU : U.length ≤ 30000000) (ihg : SigB W0 U N) {n : Int} {a b : Str} {g : Tr} (sc : List Sc) (x : Stt) (p : Path) (o2 : Own) (H : Hp) (r ro : Nat) (w : Wk) (hN : (Tr.node 63 n a b [g]).cnt ≤ N + 1) (ha : a.length ≤ 128) (h : SgW g) (hso : SOK U x.S) (hsr : SR sc x.S) (hg : GvO H ro x.Out) (hu : InU U (Tr.node 63 n a b [g])) (hpl : p.length + (N + 1) ≤ 10000) (hL : w.L.length + (Tr.node 63 n a b [g]).cnt ≤ 60000000) (hw : WKb H r w) (hne : ro ≠ r) :
    SF Tryz.prog W0 108 [.ref r 0, scAV sc, (Tr.node 63 n a b [g]).av, .sl 1 (ints p) o2, .mref ro] H fun y H' => (∃ sc', y = scAV sc' ∧ SR sc' (specW (N + 1) x (Tr.node 63 n a b [g]) p w).2.S) ∧ GvO H' ro (specW (N + 1) x (Tr.node 63 n a b [g]) p w).2.Out ∧ WKb H' r (specW (N + 1) x (Tr.node 63 n a b [g]) p w).1 ∧ Fr (fun j => j = r ∨ j = ro) H H' := by
  have hU6 : U.length ≤ 60000000 := by omega
  rw [specW_str]
  have hlt := hw.lt
  have hlo := hg.lt
  have hwB := hw.more [.cells [scAV sc]]
  have hxB : StB ⟨H.objs ++ [.cells [scAV sc]], H.hi⟩ H.objs.length ro x := ⟨⟨sc, by simp, hsr⟩, hg.more _ _⟩
  have hen := en150
  have hug := hu.kids.head
  simp only [Tr.cnt, Tr.cnts] at hN hL
  simp only [Tr.av]
  refine SF.cut (sf_start [10] 112 Tryz.func108 rfl rfl rfl (by decide) (by simp) ?_)
  repeat' first
    | refine aSq ?_ | refine aBl ?_ | refine tN ?_
    | (refine rg 0 ?_; refine aops_take 4 (mu := mu83) tab_ok (by simp; with_reducible rfl) ?_; refine dn ?_)
    | (refine dr 16 [(0, true), (1, true), (2, true), (3, true), (4, true), (5, true), (6, true), (7, true), (8, true), (9, true), (10, true), (11, true), (12, true), (13, true), (14, true), (15, false), (16, false), (17, false)] [16, 17] ?_; refine dh 4 ?_ (h := (by simp (disch := omega) [Tr.avs, small_if]; with_reducible rfl)); (first | (refine dh 1 ?_ (h := (by simp (disch := omega) [Tr.avs, small_if]; with_reducible rfl))) | (refine da 1 (fun _ => ?_) (h := (by simp (disch := omega) [Tr.avs, small_if]; with_reducible rfl)))); refine dh 2 ?_ (h := (by simp (disch := omega) [Tr.avs, small_if]; with_reducible rfl)); (first | (refine dh 1 ?_ (h := (by simp (disch := omega) [Tr.avs, small_if]; with_reducible rfl))) | (refine da 1 (fun _ => ?_) (h := (by simp (disch := omega) [Tr.avs, small_if]; with_reducible rfl)))); refine dh 3 ?_ (h := (by simp (disch := omega) [Tr.avs, small_if]; with_reducible rfl)); (first | (refine dh 1 ?_ (h := (by simp (disch := omega) [Tr.avs, small_if]; with_reducible rfl))) | (refine da 1 (fun _ => ?_) (h := (by simp (disch := omega) [Tr.avs, small_if]; with_reducible rfl)))); refine dh 1 ?_ (h := (by simp (disch := omega) [Tr.avs, small_if]; with_reducible rfl)); (first | (refine dh 1 ?_ (h := (by simp (disch := omega) [Tr.avs, small_if]; with_reducible rfl))) | (refine da 1 (fun _ => ?_) (h := (by simp (disch := omega) [Tr.avs, small_if]; with_reducible rfl)))); (first | (refine dh 1 ?_ (h := (by simp (disch := omega) [Tr.avs, small_if]; with_reducible rfl))) | (refine da 1 (fun _ => ?_) (h := (by simp (disch := omega) [Tr.avs, small_if]; with_reducible rfl)))); refine df en63 ?_; refine SF.then (sf63 (by omega)) ?_; refine ⟨.inr rfl, ?_⟩; refine df en70 ?_; refine (ihg g sc x.S (down p 0) .shut _ r w (by omega) h hso hsr hug (by rw [down_len]; omega) (by omega) hwB).mono ?_; rintro x1 H1 ⟨hR, hwb, hfb⟩; have hx1 : StB H1 H.objs.length ro x := hxB.fr hfb (by omega) hne; refine ⟨.inl rfl, ?_⟩; refine adr_val rfl rfl rfl rfl rfl rfl (by assumption) (by simp; rfl) ?_; refine (put150 x (109 :: 58 :: a) p o2 x1 _ H1 H.objs.length ro hx1 hR (by omega)).mono ?_; rintro x2 H2 ⟨rfl, hxc, hfc, hic⟩; refine ⟨.inl rfl, ?_⟩; refine adr_nil ?_)
    | (refine ru ?_ (by simp (disch := omega) [Tr.avs, small_if]; with_reducible rfl))
    | (refine awp_if rfl (fun hb => ?_) (fun hb => ?_) <;> (try simp at hb) <;> try (exfalso; omega))
    | fail
  obtain ⟨⟨sc', h6, hs'⟩, hg'⟩ := hxc
  have hl2 : H.objs.length ≤ H2.objs.length := by have e1 := hfb.1; have e2 := hfc.1; simp only [List.length_append, List.length_singleton] at e1 e2; omega
  repeat' first
    | refine aRt ?_
    | (refine ru ?_ (by simp (disch := omega) [h6]; with_reducible rfl))
    | fail
  exact spb_end (x := x.put (109 :: 58 :: a) p (sigW N x.S g (down p 0) w).2) hs' hg' (hwb.keep hfc (fun q => by rcases q with q | q <;> omega) hic) hlt hlo hl2 (fun j hj hn => ((hfc.2 j (fun q => by rcases q with q | q; omega; exact hn (.inr q))).trans (hfb.2 j (fun q => hn (.inl q)))).trans (List.getElem?_append_left hj))
theorem specB_inc (hB : LibOK W0) {U : List Str} {N : Nat} (hU : U.length ≤ 30000000) (ihg : SigB W0 U N) {n : Int} {a b : Str} {g : Tr} (sc : List Sc) (x : Stt) (p : Path) (o2 : Own) (H : Hp) (r ro : Nat) (w : Wk) (hN : (Tr.node 64 n a b [g]).cnt ≤ N + 1) (h : SgW g) (hso : SOK U x.S) (hsr : SR sc x.S) (hg : GvO H ro x.Out) (hu : InU U (Tr.node 64 n a b [g])) (hpl : p.length + (N + 1) ≤ 10000) (hL : w.L.length + (Tr.node 64 n a b [g]).cnt ≤ 60000000) (hw : WKb H r w) (hne : ro ≠ r) :
    SF Tryz.prog W0 108 [.ref r 0, scAV sc, (Tr.node 64 n a b [g]).av, .sl 1 (ints p) o2, .mref ro] H fun y H' => (∃ sc', y = scAV sc' ∧ SR sc' (specW (N + 1) x (Tr.node 64 n a b [g]) p w).2.S) ∧ GvO H' ro (specW (N + 1) x (Tr.node 64 n a b [g]) p w).2.Out ∧ WKb H' r (specW (N + 1) x (Tr.node 64 n a b [g]) p w).1 ∧ Fr (fun j => j = r ∨ j = ro) H H' := by
  have hU6 : U.length ≤ 60000000 := by omega
  rw [specW_inc]
  have hlt := hw.lt
  have hlo := hg.lt
  have hwB := hw.more [.cells [scAV sc]]
  have hxB : StB ⟨H.objs ++ [.cells [scAV sc]], H.hi⟩ H.objs.length ro x := ⟨⟨sc, by simp, hsr⟩, hg.more _ _⟩
  have hen := en150
  have hug := hu.kids.head
  have hok := ((sigs_ok U N).1 x.S g (down p 0) w h hso hug (by rw [down_len]; omega)).2
  have hil := hok.len
  simp only [Tr.cnt, Tr.cnts] at hN hL
  simp only [Tr.av]
  refine SF.cut (sf_start [10] 112 Tryz.func108 rfl rfl rfl (by decide) (by simp) ?_)
  repeat' first
    | refine aSq ?_ | refine aBl ?_ | refine tN ?_
    | (refine rg 0 ?_; refine aops_take 4 (mu := mu83) tab_ok (by simp; with_reducible rfl) ?_; refine dn ?_)
    | (refine ru ?_ (by simp (disch := omega) [Tr.avs, small_if]; with_reducible rfl))
    | (refine awp_if rfl (fun hb => ?_) (fun hb => ?_) <;> (try simp at hb) <;> try (exfalso; omega))
    | fail
  refine awp_drawJ (id := 18) (fun X => X.objs[H.objs.length]? = some (.cells [scAV sc])) [(0, true), (1, true), (2, true), (3, true), (4, true), (5, true), (6, true), (7, true), (8, true), (9, true), (12, true), (13, true), (10, false), (11, false), (14, false), (15, false)] [15] tab_ok mixedT (by decide +kernel) (by simp) ?_
  refine adj_fixN (mu := mu0) rfl (by decide +kernel) rfl (by simp) (fun X hX => by simp [hX, Tr.avs]; rfl) (by simp; rfl) ?_
  refine adj_fixN (mu := mu0) rfl (by decide +kernel) rfl (by simp) (fun X hX => by simp [hX, Tr.avs]; rfl) (by simp; rfl) ?_
  refine adj_fixN (mu := mu0) rfl (by decide +kernel) rfl (by simp) (fun X hX => by simp [hX, Tr.avs]; rfl) (by simp; rfl) ?_
  refine adj_fixN (mu := mu0) rfl (by decide +kernel) rfl (by simp) (fun X hX => by simp [hX, Tr.avs]; rfl) (by simp; rfl) ?_
  refine adj_fixN (mu := mu0) rfl (by decide +kernel) rfl (by simp) (fun X hX => by simp [hX, Tr.avs]; rfl) (by simp; rfl) ?_
  refine adj_fixN (mu := mu0) rfl (by decide +kernel) rfl (by simp) (fun X hX => by simp [hX, Tr.avs]; rfl) (by simp; rfl) ?_
  refine adj_fixN (mu := mu0) rfl (by decide +kernel) rfl (by simp) (fun X hX => by simp [hX, Tr.avs]; rfl) (by simp; rfl) ?_
  refine adj_fixN (mu := mu0) rfl (by decide +kernel) rfl (by simp) (fun X hX => by simp [hX, Tr.avs]; rfl) (by simp; rfl) ?_
  refine adj_fixN (mu := mu0) rfl (by decide +kernel) rfl (by simp) (fun X hX => by simp [hX, Tr.avs]; rfl) (by simp; rfl) ?_
  refine adj_fixN (mu := mu0) rfl (by decide +kernel) rfl (by simp) (fun X hX => by simp [hX, Tr.avs]; rfl) (by simp; rfl) ?_
  refine adj_fixN (mu := mu0) rfl (by decide +kernel) rfl (by simp) (fun X hX => by simp [hX, Tr.avs]; rfl) (by simp; rfl) ?_
  refine adj_fixN (mu := mu0) rfl (by decide +kernel) rfl (by simp) (fun X hX => by simp [hX, Tr.avs]; rfl) (by simp; rfl) ?_
  refine adj_fn rfl rfl rfl rfl rfl en63 (by simp; rfl) ?_
  refine SF.then (sf63 (by omega)) ?_
  refine ⟨.inr (by simp), ?_⟩
  refine adj_fn rfl rfl rfl rfl rfl en70 (by simp; rfl) ?_
  refine (ihg g sc x.S (down p 0) .shut _ r w (by omega) h hso hsr hug (by rw [down_len]; omega) (by omega) hwB).mono ?_
  rintro x1 H1 ⟨hR, hwb, hfb⟩
  have hob1 : H1.objs[H.objs.length]? = some (.cells [scAV sc]) := (hfb.2 _ (by omega)).trans (by simp)
  have hg1 : GvO H1 ro x.Out := (hg.more _ _).fr hfb hne
  refine ⟨.inr hob1, ?_⟩
  refine adj_fn rfl rfl rfl rfl rfl en69 (by simp; rfl) ?_
  refine (sf69 hB hsr hR (by omega) hok.hi hg1).mono ?_
  rintro x2 H2 ⟨⟨sc2, rfl, hs2⟩, hg2, hf2, hi2⟩
  have hob2 : H2.objs[H.objs.length]? = some (.cells [scAV sc]) := (hf2.2 _ (by omega)).trans hob1
  refine ⟨.inr hob2, ?_⟩
  refine adj_stepN (mu := mu0) tab_ok rfl (by simp [hob2]; first | exact ⟨rfl, rfl⟩ | rfl) (.inl rfl) (by simp; rfl) ?_
  refine adj_nil ?_
  have hl2 : H.objs.length ≤ H2.objs.length := by have e1 := hfb.1; have e2 := hf2.1; simp only [List.length_append, List.length_singleton] at e1 e2; omega
  have h7 : ∀ o : AObj, (H2.objs.set H.objs.length o)[H.objs.length]? = some o := fun o => List.getElem?_set_self (obj_lt hob2)
  repeat' first
    | refine aSq ?_ | refine aRt ?_
    | (refine ru ?_ (by simp (disch := omega) [h7]; with_reducible rfl))
    | fail
  obtain ⟨ks2, vs2, hk2, hg3⟩ := hg2
  have hwd := hwb.keep hf2 (by omega) hi2
  refine spb_end (x := ⟨bringB x.S (sigW N x.S g (down p 0) w).2 p, putAll x.Out (sigW N x.S g (down p 0) w).2 p⟩) hs2 ⟨ks2, vs2, ?_, hg3⟩ ⟨hwd.1.keep ?_ rfl, hwd.2⟩ hlt hlo (by simpa using hl2) (fun j hj hn => ?_)
  · simp only; rw [List.getElem?_set_ne (by omega)]; exact hk2
  · simp only; rw [List.getElem?_set_ne (by omega)]
  · simp only
    rw [List.getElem?_set_ne (by omega)]
    exact ((hf2.2 j (fun q => hn (.inr q))).trans (hfb.2 j (fun q => hn (.inl q)))).trans (List.getElem?_append_left hj)
end Go.Av
namespace Go.Av
open Go.Proofs
variable {W0 : World}
set_option maxRecDepth 10000
set_option maxHeartbeats 4000000
theorem sigB_step (hB : LibOK W0) {U : List Str} {N : Nat} (hU : U.length ≤ 30000000) (ihg : SigB W0 U N) (ihp : SpecB W0 U N) : SigB W0 U (N + 1) := by
  intro t sc s p o2 H r w hN ht hso hsr hu hpl hL hw
  have hU6 : U.length ≤ 60000000 := by omega
  have hlt := hw.lt
  cases ht with
  | @name n a b h =>
    rw [sigW_name]
    simp only [Tr.cnt, Tr.cnts] at hN hL
    simp only [Tr.av]
    refine SF.cut (sf_start [8] 74 Tryz.func70 rfl rfl rfl (by decide) (by simp) ?_)
    repeat' first
      | refine aSq ?_ | refine aRt ?_ | refine aBl ?_ | refine tN ?_ | refine tR ?_ | refine iR ?_
      | (refine rg 3 ?_; refine tk 7 ?_; refine fc en68 ?_; refine (sf68 hB hso hsr (by omega) (by simp) h hw (by omega)).mono ?_; rintro x1 H1 ⟨hR, hwb, hfb⟩; refine tk 1 ?_; refine dn ?_)
      | refine ru ?_
      | (refine awp_if rfl (fun hb => ?_) (fun hb => ?_) <;> (try simp at hb) <;> try (exfalso; omega))
      | fail
    exact gsb_end hR hwb hlt (by simp [hfb.1]) (fun j _ hne => hfb.2 j hne)
  | @wh n a b g t2 h1 h2 =>
    rw [sigW_wh]
    have hug := hu.kids.head
    obtain ⟨l1, q1⟩ := (sigs_ok U N).1 s g (down p 0) w h1 hso hug (by rw [down_len]; omega)
    simp only [Tr.cnt, Tr.cnts] at hN hL
    simp only [Tr.av]
    refine SF.cut (sf_start [8] 74 Tryz.func70 rfl rfl rfl (by decide) (by simp) ?_)
    repeat' first
      | refine aSq ?_ | refine aRt ?_ | refine aBl ?_ | refine tN ?_ | refine tR ?_ | refine iR ?_
      | (refine dr 5 [(0, true), (1, true), (2, true), (3, true), (4, true), (5, true), (6, true), (7, true), (8, true), (9, false), (10, false), (11, false)] [10, 11] ?_; refine dh 5 ?_ (h := (by simp (disch := omega) [Tr.avs]; with_reducible rfl)); (first | (refine dh 1 ?_ (h := (by simp (disch := omega) [Tr.avs]; with_reducible rfl))) | (refine da 1 (fun _ => ?_) (h := (by simp (disch := omega) [Tr.avs]; with_reducible rfl)))); refine dh 1 ?_ (h := (by simp (disch := omega) [Tr.avs]; with_reducible rfl)); (first | (refine dh 1 ?_ (h := (by simp (disch := omega) [Tr.avs]; with_reducible rfl))) | (refine da 1 (fun _ => ?_) (h := (by simp (disch := omega) [Tr.avs]; with_reducible rfl)))); refine dh 1 ?_ (h := (by simp (disch := omega) [Tr.avs]; with_reducible rfl)); refine df en63 ?_; refine SF.then (sf63 (by omega)) ?_; refine ⟨.inr rfl, ?_⟩; refine df en70 ?_; refine (ihg g sc s (down p 0) .shut H r w (by omega) h1 hso hsr hug (by rw [down_len]; omega) (by omega) hw).mono ?_; rintro x1 H1 ⟨hR, hwb, hfb⟩; refine ⟨.inl rfl, ?_⟩; refine dx ?_ (h := (by simp (disch := omega) [Tr.avs]; with_reducible rfl)))
      | (refine dr 6 [(0, true), (1, true), (2, true), (3, true), (4, true), (5, true), (6, true), (7, true), (8, true), (9, false), (10, false)] [10] ?_; refine dh 5 ?_ (h := (by simp (disch := omega) [Tr.avs]; with_reducible rfl)); (first | (refine dh 1 ?_ (h := (by simp (disch := omega) [Tr.avs]; with_reducible rfl))) | (refine da 1 (fun _ => ?_) (h := (by simp (disch := omega) [Tr.avs]; with_reducible rfl)))); refine dh 1 ?_ (h := (by simp (disch := omega) [Tr.avs]; with_reducible rfl)); (first | (refine dh 1 ?_ (h := (by simp (disch := omega) [Tr.avs]; with_reducible rfl))) | (refine da 1 (fun _ => ?_) (h := (by simp (disch := omega) [Tr.avs]; with_reducible rfl)))); refine dh 1 ?_ (h := (by simp (disch := omega) [Tr.avs]; with_reducible rfl)); refine df en63 ?_; refine SF.then (sf63 (by omega)) ?_; refine ⟨.inr rfl, ?_⟩; refine df en62 ?_; refine (sf62 hB hU6 N t2 sc s (down p 1) .shut H1 r _ (by omega) h2 hso hsr (by rw [down_len]; omega) (by have := l1.1; omega) hwb).mono ?_; rintro x2 H2 ⟨rfl, hwc, hfc⟩; refine ⟨.inl rfl, ?_⟩; refine adr_nil ?_)
      | (refine ru ?_ (by simp (disch := omega) [Tr.avs]; with_reducible rfl))
      | (refine awp_if rfl (fun hb => ?_) (fun hb => ?_) <;> (try simp at hb) <;> try (exfalso; omega))
      | fail
    have hf := hfb.trans hfc
    exact gsb_end hR hwc hlt (by simp [hf.1]) (fun j _ hne => hf.2 j hne)
  | @body n a b l hl =>
    rw [sigW_body]
    have hll := pos_len fun t ht => (hl t ht).pos
    have hul := hu.kids
    simp only [Tr.cnt] at hN hL
    simp only [Tr.av]
    obtain ⟨fin, hfin⟩ : ∃ fin, foldK (specF N p) 0 l (w, ⟨s, []⟩) = fin := ⟨_, rfl⟩
    rw [hfin]
    refine SF.cut (sf_start [8] 74 Tryz.func70 rfl rfl rfl (by decide) (by simp) ?_)
    repeat' first
      | refine aSq ?_ | refine aSk ?_ | refine aBl ?_ | refine tN ?_
      | refine ru ?_
      | (refine awp_if rfl (fun hb => ?_) (fun hb => ?_) <;> (try simp at hb) <;> try (exfalso; omega))
      | fail
    refine awp_loop_inv (fun q st => ∃ (i : Nat) (cur : Wk × Stt) (Hc : Hp) (sc' : List Sc), q = l.length - i ∧ i ≤ l.length ∧ foldK (specF N p) i (l.drop i) cur = fin ∧ LenOK w cur.1 (Tr.cnts (l.take i)) ∧ SttOK U ⟨s, []⟩ cur.2 (Tr.cnts (l.take i)) ∧ WKb Hc r cur.1 ∧ SR sc' cur.2.S ∧ GvO Hc H.objs.length cur.2.Out ∧
      Hc.objs.length = H.objs.length + 1 ∧ (∀ j, j < H.objs.length → j ≠ r → Hc.objs[j]? = H.objs[j]?) ∧
      Sub st ⟨74, [(0, .ref r 0), (1, scAV sc'), (3, .sl 1 (ints p) o2), (10, .mref H.objs.length), (56, .sl 1 (Tr.avs l) .shut), (57, .int .i64 l.length), (58, .int .i64 i)], Hc⟩) l.length
      ⟨0, (w, ⟨s, []⟩), ⟨H.objs ++ [.map [] []], H.hi⟩, sc, by simp, by simp, hfin, .refl _ _, .refl hso .nil _, hw.more _, hsr, ⟨[], [], by simp, .nil⟩, by simp, fun j hj _ => List.getElem?_append_left hj, sb⟩ ?_
    clear hfin hw hsr
    rintro q st ⟨i, cur, Hc, sc', rfl, hi, hfo, hlo, hst, hwc, hsc, hgc, hlc, hfc, hs2⟩
    refine awp_sub hs2 ?_
    clear hs2 st
    repeat' first
      | refine aSq ?_ | refine aRt ?_ | refine aSk ?_ | refine aEx ?_ | refine aBl ?_ | refine tN ?_
      | (refine rg 12 ?_; refine tk 5 ?_; refine fc en63 ?_; refine SF.then (sf63 (by omega)) ?_; refine tk 1 ?_; refine fc en108 ?_; (have hlt : i < l.length := by assumption); (have q1 := Tr.cnts_take l i hlt); (have q2 := Tr.cnts_take_le l (i + 1)); (have q3 := Tr.cnts_le l i hlt); (have h1 := hlo.1); (have q4 := (sigs_ok U N).2 cur.2 l[i] (down p i) cur.1 (hl _ (List.getElem_mem hlt)) hst.s hst.o (hul.mem _ (List.getElem_mem hlt)) (by rw [down_len]; omega)); refine (ihp l[i] sc' cur.2 (down p i) .shut Hc r H.objs.length cur.1 (by omega) (hl _ (List.getElem_mem hlt)) hst.s hst.o hsc hgc (hul.mem _ (List.getElem_mem hlt)) (by rw [down_len]; omega) (by omega) hwc (by omega)).mono ?_; rintro x1 H2 ⟨⟨sc2, rfl, hsd⟩, hgd, hwb, hfb⟩; refine tk 1 ?_; refine dn ?_)
      | (refine (show AWP Tryz.prog W0 (Code.region 14 _ _) _ _ from ?_); obtain ⟨ks, vs, hob, hgr⟩ := hgc; refine awp_only [(10, .mref H.objs.length)] (only_cons (by simp) only_nil) ?_; refine awp_freeze H.objs.length [(10, .mapv ks vs)] hob (.cons (.map _ _ rfl) .nil) ?_; refine rg 14 ?_; refine tk 1 ?_; refine fc en105 ?_; refine (sf105 hgr).mono ?_; rintro x1 H2 ⟨rfl, hR⟩; refine tk 1 ?_; refine dn ?_)
      | refine ru ?_
      | (refine awp_if rfl (fun hb => ?_) (fun hb => ?_) <;> (try simp at hb) <;> try (exfalso; omega))
      | fail
    · rw [foldK_drop _ hlt] at hfo
      exact ⟨l.length - (i + 1), by omega, i + 1, _, H2, sc2, rfl, by omega, hfo, by rw [q1]; exact hlo.trans q4.1, by rw [q1]; exact hst.trans q4.2, hwb, hsd, hgd, by rw [hfb.1, hlc], fun j hj hne => (hfb.2 j (by omega)).trans (hfc j hj hne), sb⟩
    · rw [foldK_end _ (by omega)] at hfo
      subst hfo
      exact gsb_end hR ⟨hwc.1.keep (by simp only; rw [List.getElem?_set_ne (by omega)]) rfl, hwc.2⟩ (by assumption) (by simp; omega) (fun j hj hne => by simp only; rw [List.getElem?_set_ne (by omega)]; exact hfc j hj hne)
theorem specB_step (hB : LibOK W0) {U : List Str} {N : Nat} (hU : U.length ≤ 30000000) (ihg : SigB W0 U N) : SpecB W0 U (N + 1) := by
  intro t sc x p o2 H r ro w hN ht hso hoo hsr hg hu hpl hL hw hne
  cases ht with
  | val ha h => exact specB_val hB hU sc x p o2 H r ro w hN ha h hso hsr hg hu hpl hL hw hne
  | typ0 ha => exact specB_typs hB hU sc x p o2 H r ro w hN ha (by simp) hso hsr hg hu hpl hL hw hne
  | typ1 ha h => exact specB_typs hB hU sc x p o2 H r ro w hN ha (by simpa using h) hso hsr hg hu hpl hL hw hne
  | data h8 h => exact specB_data hB hU sc x p o2 H r ro w hN h8 h hso hsr hg hu hpl hL hw hne
  | str ha h => exact specB_str hB hU ihg sc x p o2 H r ro w hN ha h hso hsr hg hu hpl hL hw hne
  | inc h => exact specB_inc hB hU ihg sc x p o2 H r ro w hN h hso hsr hg hu hpl hL hw hne
  | share => exact specB_share (t := .none) hB hU sc x p o2 H r ro w hN hso hsr hg hu hpl hL hw hne
theorem sigsB (hB : LibOK W0) (U : List Str) (hU : U.length ≤ 30000000) : ∀ N, SigB W0 U N ∧ SpecB W0 U N
  | 0 => ⟨fun t sc s p o2 H r w hN ht => by have := ht.pos; omega, fun t sc x p o2 H r ro w hN ht => by have := ht.pos; omega⟩
  | N + 1 => have ih := sigsB hB U hU N; ⟨sigB_step hB hU ih.1 ih.2, specB_step hB hU ih.1⟩
end Go.Av
namespace Go.Av
open Go.Proofs
variable {W0 : World}
set_option maxRecDepth 10000
set_option maxHeartbeats 4000000
theorem look82 {H : Hp} {r : Nat} {ks : List Str} {vs : List AV} {k : Str} (h : H.objs[r]? = some (.map ks vs)) : lookA tab H 82 (.mref r) (.str k) false = some ((getA ks vs k).getD .nilp) := by
  simp [lookA, h, TI.isAgg, TK.isAgg, lookOut, ZC.av]
theorem sf73e (hB : LibOK W0) {x : Str} {site p : Path} {br : Bool} {hv nx : AV} {o1 o2 : Own} {H : Hp} (hd : Data hv) (hx : x.length ≤ 200) (hp : p.length ≤ 67108863) (hst : site.length ≤ 67108863) :
    SF Tryz.prog W0 73 [.ptr [.str x, .sl 1 (ints site) .shut, .bool br, hv, nx], .sl 1 (ints p) o1, .str (x.take 1), .sl 1 (strs [x.drop 2]) o2] H fun r H' => H' = H ∧ r = .tuple [.agg (Lk.mk p (x.take 1) (x.drop 2) site (if br then [x.drop 2] else [])).av, .any, .bool true] := by
  have h := sf73 (W0 := W0) hB (c := ⟨x, site, br, hv⟩) (b := ⟨x, site, br, []⟩) (nx := nx) (p := p) (sp := x.take 1) (names := [x.drop 2]) (o1 := o1) (o2 := o2) (H := H) rfl rfl hd (.inl rfl) (by simp) (by simp) (by simp; omega) (by rw [joinL_one]; simp; omega) (by simp; omega) hp hst
  refine SF.le (h.mono ?_)
  rintro r H' ⟨rfl, hm⟩
  simp only [meantR, List.drop_succ_cons, List.drop_zero, goIn] at hm
  obtain ⟨hv', _, rfl⟩ := hm
  exact ⟨_, .tuple (.cons (.refl _) (.cons (.any _) (.cons (.refl _) .nil))), rfl, by rw [joinL_one]⟩
theorem sf37 (hB : LibOK W0) {out : List Hs} {p : Path} {o2 : Own} {ks : List Str} {vs : List AV} {H : Hp} {r ro : Nat} {w : Wk} (hg : GvL ks vs out) (hob : H.objs[ro]? = some (.map ks vs)) (hn : (out.map Hs.label).Nodup) (h2 : ∀ h ∈ out, 2 ≤ h.label.length) (h3 : ∀ h ∈ out, h.label.length ≤ 200) (hst : ∀ h ∈ out, h.site.length ≤ 10000) (hlo : out.length ≤ 60000000) (hp : p.length ≤ 67108863) (hX : w.X.length + out.length ≤ 67108863) (hw : WKb H r w) (hne : ro ≠ r) :
    SF Tryz.prog W0 37 [.ref r 0, .sl 1 (ints p) o2, .mref ro] H fun x H' => x = .tuple [] ∧ WKb H' r { w with X := w.X ++ endsL out p } ∧ Fr (· = r) H H' := by
  have hlt := hw.lt
  have hlo2 := obj_lt hob
  obtain ⟨S, hS⟩ : ∃ S, sortS ks = S := ⟨_, rfl⟩
  have hSo : sortS (out.map Hs.label) = S := by rw [← hS, hg.sort hn]
  have hSl : S.length = out.length := by rw [← hSo, sortS_len]; simp
  have hkl : ks.length = out.length := by rw [← hSl, ← hS, sortS_len]
  have hSm : ∀ x ∈ S, ∃ h v, findL (isH x) out = some h ∧ h.label = x ∧ getA ks vs x = some v ∧ ∃ hv nx, v = .ptr [.str x, .sl 1 (ints h.site) .shut, .bool h.br, hv, nx] ∧ Data v := fun x hx => by
    rw [← hS, (sortS_perm ks).mem_iff] at hx
    obtain ⟨v, hv⟩ := getA_some hg.hl hx
    obtain ⟨h, hh, e⟩ := findL_mem ((hg.hk x).1 hx)
    obtain ⟨d, a, b, e2⟩ := hg.hv x v h hv hh
    exact ⟨h, v, hh, e, hv, a, b, e2, d⟩
  refine SF.cut (sf_start [] 44 Tryz.func37 rfl rfl rfl (by decide) (by simp) ?_)
  repeat' first
    | refine aSq ?_ | refine aRt ?_ | refine aSk ?_ | refine aEx ?_ | refine aBl ?_ | refine tN ?_ | refine tR ?_ | refine tE ?_ | refine iR ?_
  refine rg 0 ?_
  refine tk 1 ?_
  refine fc en72 ?_
  refine (hB.u72 (.mref ro) ks H (.inr (.inr ⟨ro, vs, rfl, hob⟩))).mono ?_
  rintro _ H1 ⟨rfl, rfl⟩
  refine fc en71 ?_
  refine SF.then (hB.u71a (.mref ro) ks _ H.objs.length (.inr (.inr ⟨ro, vs, rfl, (List.getElem?_append_left hlo2).trans hob⟩)) (by simp) (by omega) (fun x hx => by
    obtain ⟨h, hh, rfl⟩ := List.mem_map.1 ((hg.hk x).1 hx)
    have := h3 h hh
    omega)) ?_
  rw [hS]
  refine tk 2 ?_
  refine dn ?_
  repeat' first
    | refine aSq ?_ | refine aRt ?_ | refine aSk ?_ | refine aEx ?_ | refine aBl ?_ | refine tN ?_ | refine tR ?_ | refine tE ?_ | refine iR ?_
  refine awp_loop_inv (fun q st => ∃ (i : Nat) (Hc : Hp), q = S.length - i ∧ i ≤ S.length ∧ WKb Hc r { w with X := w.X ++ (S.take i).map (linkOf out p) } ∧ H.objs.length ≤ Hc.objs.length ∧ (∀ j, j < H.objs.length → j ≠ r → Hc.objs[j]? = H.objs[j]?) ∧
    Sub st ⟨44, [(0, .ref r 0), (1, .sl 1 (ints p) .shut), (2, .mref ro), (13, .sl 1 (strs S) .shut), (14, .int .i64 S.length), (15, .int .i64 i)], Hc⟩) S.length
    ⟨0, ⟨H.objs ++ [.cells [.mref ro]], H.hi⟩, by simp, by simp, by simpa using hw.more _, by simp, fun j hj _ => List.getElem?_append_left hj, sb⟩ ?_
  clear hw
  rintro q st ⟨i, Hc, rfl, hi, hwc, hlc, hfc, hs2⟩
  refine awp_sub hs2 ?_
  clear hs2 st
  have hobc : Hc.objs[ro]? = some (.map ks vs) := (hfc ro hlo2 hne).trans hob
  repeat' first
    | refine aSq ?_ | refine aRt ?_ | refine aSk ?_ | refine aEx ?_ | refine aBl ?_ | refine tN ?_ | refine tR ?_ | refine tE ?_ | refine iR ?_
    | refine ru ?_
    | (refine awp_if rfl (fun hb => ?_) (fun hb => ?_) <;> (try simp at hb) <;> try (exfalso; omega))
    | fail
  · have hlt3 : i < S.length := by assumption
    obtain ⟨h, v, e1, e2, e3, hv, nx, e4, hd⟩ := hSm S[i] (List.getElem_mem hlt3)
    have hm := (findL_some e1).1
    have hxl : S[i].length ≤ 200 := by rw [← e2]; exact h3 h hm
    have hx2 : 2 ≤ S[i].length := by rw [← e2]; exact h2 h hm
    have hsl : h.site.length ≤ 67108863 := by have := hst h hm; omega
    have hdv : Data hv := fun n m => by have := hd n m; rw [e4] at this; simp only [cln, clnL, AV.ptr.injEq, List.cons.injEq] at this; exact this.2.2.2.1
    rw [e4] at e3
    have hlk : linkOf out p S[i] = ⟨p, S[i].take 1, S[i].drop 2, h.site, if h.br then [S[i].drop 2] else []⟩ := by unfold linkOf; rw [e1]
    obtain ⟨rest, hrest⟩ : ∃ rest : List Str, (if h.br then [S[i].drop 2] else []) = rest := ⟨_, rfl⟩
    rw [hrest] at hlk
    have hlr := hwc.lt
    refine AWP.mono (Q := fun e st => e = .normal ∧ Sub st ⟨44, [(0, .ref r 0), (1, .sl 1 (ints p) .shut), (2, .mref ro), (8, .ref Hc.objs.length 0), (13, .sl 1 (strs S) .shut), (14, .int .i64 S.length), (15, .int .i64 i)], ⟨Hc.objs ++ [.cells [.sl 1 (ints p) .shut, .str (S[i].take 1), .str (S[i].drop 2), .sl 1 (ints h.site) .shut, .sl 1 (strs rest) .shut]], Hc.hi⟩⟩) ?_ ?_
    · rintro e st ⟨rfl, hs2⟩
      refine thenN (awp_sub hs2 ?_)
      repeat' first
        | refine aSq ?_ | refine aRt ?_ | refine aSk ?_ | refine aEx ?_ | refine aBl ?_ | refine tN ?_ | refine tR ?_ | refine tE ?_ | refine iR ?_
      obtain ⟨⟨vL, vX, hobr0, aL, aX, hpt⟩, hE⟩ := hwc
      have hobr : ∀ x : AObj, (Hc.objs ++ [x])[r]? = some (.cells [vL, vX, .int .i64 w.E]) := fun x => by rw [List.getElem?_append_left hlr]; exact hobr0
      have hsr : ∀ x y : AObj, (Hc.objs ++ [x]).set r y = Hc.objs.set r y ++ [x] := fun x y => List.set_append_left _ _ hlr
      have hil : (S.take i).length ≤ out.length := by simp; omega
      clear hlr
      refine awp_drawJ (id := 4) (fun X => X.objs = Hc.objs ++ [.cells [.sl 1 (ints p) .shut, .str (S[i].take 1), .str (S[i].drop 2), .sl 1 (ints h.site) .shut, .sl 1 (strs rest) .shut]]) [(0, true), (1, true), (2, true), (3, true), (4, true), (5, true), (6, false), (7, false), (8, true), (9, true), (10, false)] [10] tab_ok mixedT (by decide +kernel) (rfl) ?_
      refine adj_fixN (mu := mu0) rfl (by decide +kernel) rfl (rfl) (fun X hX => by simp [hX, hobr]; rfl) (by simp; rfl) ?_
      refine adj_fixN (mu := mu0) rfl (by decide +kernel) rfl (rfl) (fun X hX => by simp [hX, hobr]; rfl) (by simp; rfl) ?_
      refine adj_fixN (mu := mu0) rfl (by decide +kernel) rfl (rfl) (fun X hX => by simp [hX, hobr]; rfl) (by simp; rfl) ?_
      refine adj_fixN (mu := mu0) rfl (by decide +kernel) rfl (rfl) (fun X hX => by simp [hX, hobr]; rfl) (by simp; rfl) ?_
      refine adj_fixN (mu := mu0) rfl (by decide +kernel) rfl (rfl) (fun X hX => by simp [hX, hobr]; rfl) (by simp; rfl) ?_
      refine adj_fixN (mu := mu0) rfl (by decide +kernel) rfl (rfl) (fun X hX => by simp [hX, hobr]; rfl) (by simp; rfl) ?_
      refine adj_stepN (mu := mu0) tab_ok rfl (by simp [hobr]; first | exact ⟨rfl, rfl⟩ | rfl) (.inr (rfl)) (by simp; rfl) ?_
      obtain ⟨v', H', e1, a2, g2, ho2, a3, p3⟩ := (aX.same (H' := ⟨Hc.objs ++ [.cells [.sl 1 (ints p) .shut, .str (S[i].take 1), .str (S[i].drop 2), .sl 1 (ints h.site) .shut, .sl 1 (strs rest) .shut]], Hc.hi⟩) rfl).append2 (T := tab) (E0.gr _) (x := .sl 5 [(Lk.mk p (S[i].take 1) (S[i].drop 2) h.site rest).av] .capped) (fs := [(Lk.mk p (S[i].take 1) (S[i].drop 2) h.site rest).av]) (t := 24) (e := 38) tab24 tab38 rfl (by decide) (by simp) (by simp [Lk.av]) (by simp; omega) (aL.same rfl) hpt.symm
      simp only [Lk.av] at e1
      refine adj_stepN (mu := mu0) (H' := H') tab_ok rfl (by simp [e1]; rfl) (.inr ho2) (by simp; rfl) ?_
      refine adj_fixN (mu := mu0) rfl (by decide +kernel) rfl (ho2) (fun X hX => by simp [hX, hobr, ho2, hsr, a2.cells, a2.okc]; rfl) (by simp; rfl) ?_
      refine adj_fixN (mu := mu0) rfl (by decide +kernel) rfl (ho2) (fun X hX => by simp [hX, hobr, ho2, hsr, a2.cells, a2.okc]; rfl) (by simp; rfl) ?_
      refine adj_stepN (mu := mu0) tab_ok rfl (by simp [hobr, ho2, hsr, a2.cells, a2.okc]; first | exact ⟨rfl, rfl⟩ | rfl) (.inl rfl) (by simp; rfl) ?_
      refine adj_nil ?_
      have hlr := obj_lt hobr0
      refine inN (tN ?_)
      repeat' first
        | refine aSq ?_ | refine aRt ?_ | refine aSk ?_ | refine aEx ?_ | refine aBl ?_ | refine tN ?_ | refine tR ?_ | refine tE ?_ | refine iR ?_
        | refine ru ?_
        | fail
      refine ⟨S.length - (i + 1), by omega, i + 1, ⟨Hc.objs.set r (.cells [vL, v', .int .i64 w.E]) ++ [.cells [.sl 1 (ints p) .shut, .str (S[i].take 1), .str (S[i].drop 2), .sl 1 (ints h.site) .shut, .sl 1 (strs rest) .shut]], H'.hi⟩, rfl, by omega, ⟨⟨vL, v', ?_, a3.same rfl, ?_, p3.symm⟩, hE⟩, ?_, ?_, sb⟩
      · rw [List.getElem?_append_left (by simpa using hlr)]; simp [hlr]
      · rw [take_one _ i hlt3, List.map_append, ← List.append_assoc, lks_append]
        simp only [List.map_cons, List.map_nil, hlk]
        exact a2.same rfl
      · simp; omega
      · intro j hj hne2
        simp only
        rw [List.getElem?_append_left (by simpa using (by omega : j < Hc.objs.length)), List.getElem?_set_ne (Ne.symm hne2)]
        exact hfc j hj hne2
    · subst hrest
      have hobx : ∀ o : AObj, (Hc.objs ++ [o])[ro]? = some (.map ks vs) := fun o => by rw [List.getElem?_append_left (obj_lt hobc)]; exact hobc
      have hl0 : lookA tab Hc 82 (.mref ro) (.str S[i]) false = some (.ptr [.str S[i], .sl 1 (ints h.site) .shut, .bool h.br, hv, nx]) := by rw [look82 hobc, e3]; rfl
      have hl1 : ∀ o : AObj, lookA tab ⟨Hc.objs ++ [o], Hc.hi⟩ 82 (.mref ro) (.str S[i]) false = some (.ptr [.str S[i], .sl 1 (ints h.site) .shut, .bool h.br, hv, nx]) := fun o => by rw [look82 (H := ⟨Hc.objs ++ [o], Hc.hi⟩) (hobx o), e3]; rfl
      refine awp_drawK (id := 3) (mu := mu0) [(0, true), (1, true), (3, true), (4, true), (5, true), (6, true), (7, true)] [2, 8, 9, 14, 15, 16, 17] tab_ok mixedT (by decide +kernel) 11 rfl ?_
      refine dh 7 ?_ (h := by simp (disch := omega) [small_ifI]; with_reducible rfl)
      refine adr_nil ?_
      refine ag_three (i := 2) (j := 8) (k := 14) (by decide +kernel) (by decide) (goes_run (mu := mu0) tab_ok (by simp [-lookA, hl0, hl1]; with_reducible rfl)) (goes_run (mu := mu0) tab_ok (by simp; with_reducible rfl)) (goes_run (mu := mu0) tab_ok (by simp; with_reducible rfl)) ?_ ?_ ?_
      · refine ag_two (i := 8) (j := 14) (by decide +kernel) (by decide) (goes_run (mu := mu0) tab_ok (by simp; with_reducible rfl)) (goes_run (mu := mu0) tab_ok (by simp; with_reducible rfl)) ?_ ?_
        · refine ag_two (i := 9) (j := 14) (by decide +kernel) (by decide) (goes_fn rfl rfl rfl rfl en73 (by simp [strs]) (sf73e hB (x := S[i]) (site := h.site) (br := h.br) (hv := hv) (nx := nx) (o1 := .shut) (o2 := .capped) hdv hxl hp hsl) (by simp [Lk.av]; rfl)) (goes_run (mu := mu0) tab_ok (by simp; with_reducible rfl)) ?_ ?_
          · refine ag_plan (mu := mu0) (n := 4) [(10, true), (11, true), (12, true), (13, true)] tab_ok (by decide +kernel) ?_
            refine dh 4 ?_
            refine adr_nil ?_
            refine ag_one (i := 14) (by decide +kernel) (by decide) (goes_run (mu := mu0) tab_ok (by simp; with_reducible rfl)) ?_
            refine ag_one (i := 15) (by decide +kernel) (by decide) (goes_run (mu := mu0) tab_ok (by simp; with_reducible rfl)) ?_
            refine ag_one (i := 16) (by decide +kernel) (by decide) (goes_run (mu := mu0) tab_ok (by simp; with_reducible rfl)) ?_
            refine ag_one (i := 17) (by decide +kernel) (by decide) (goes_run (mu := mu0) tab_ok (by simp; with_reducible rfl)) ?_
            exact aw_done ⟨rfl, sb⟩ (by decide +kernel)
          · refine ag_one (i := 9) (by decide +kernel) (by decide) (goes_fn rfl rfl rfl rfl en73 (by simp [strs]) (sf73e hB (x := S[i]) (site := h.site) (br := h.br) (hv := hv) (nx := nx) (o1 := .shut) (o2 := .capped) hdv hxl hp hsl) (by simp [Lk.av]; rfl)) ?_
            refine aw_base [15, 16, 17] (by decide +kernel) ?_
            refine ag_plan (mu := mu0) (n := 3) [(10, true), (11, true), (12, true), (13, true)] tab_ok (by decide +kernel) ?_
            refine dh 4 ?_
            refine adr_nil ?_
            refine ag_one (i := 15) (by decide +kernel) (by decide) (goes_run (mu := mu0) tab_ok (by simp; with_reducible rfl)) ?_
            refine ag_one (i := 16) (by decide +kernel) (by decide) (goes_run (mu := mu0) tab_ok (by simp; with_reducible rfl)) ?_
            refine ag_one (i := 17) (by decide +kernel) (by decide) (goes_run (mu := mu0) tab_ok (by simp; with_reducible rfl)) ?_
            exact aw_done ⟨rfl, sb⟩ (by decide +kernel)
        · refine ag_one (i := 8) (by decide +kernel) (by decide) (goes_run (mu := mu0) tab_ok (by simp; with_reducible rfl)) ?_
          refine ag_one (i := 9) (by decide +kernel) (by decide) (goes_fn rfl rfl rfl rfl en73 (by simp [strs]) (sf73e hB (x := S[i]) (site := h.site) (br := h.br) (hv := hv) (nx := nx) (o1 := .shut) (o2 := .capped) hdv hxl hp hsl) (by simp [Lk.av]; rfl)) ?_
          refine aw_base [15, 16, 17] (by decide +kernel) ?_
          refine ag_plan (mu := mu0) (n := 3) [(10, true), (11, true), (12, true), (13, true)] tab_ok (by decide +kernel) ?_
          refine dh 4 ?_
          refine adr_nil ?_
          refine ag_one (i := 15) (by decide +kernel) (by decide) (goes_run (mu := mu0) tab_ok (by simp; with_reducible rfl)) ?_
          refine ag_one (i := 16) (by decide +kernel) (by decide) (goes_run (mu := mu0) tab_ok (by simp; with_reducible rfl)) ?_
          refine ag_one (i := 17) (by decide +kernel) (by decide) (goes_run (mu := mu0) tab_ok (by simp; with_reducible rfl)) ?_
          exact aw_done ⟨rfl, sb⟩ (by decide +kernel)
      · refine ag_two (i := 2) (j := 14) (by decide +kernel) (by decide) (goes_run (mu := mu0) tab_ok (by simp [-lookA, hl0, hl1]; with_reducible rfl)) (goes_run (mu := mu0) tab_ok (by simp; with_reducible rfl)) ?_ ?_
        · refine ag_two (i := 9) (j := 14) (by decide +kernel) (by decide) (goes_fn rfl rfl rfl rfl en73 (by simp [strs]) (sf73e hB (x := S[i]) (site := h.site) (br := h.br) (hv := hv) (nx := nx) (o1 := .shut) (o2 := .capped) hdv hxl hp hsl) (by simp [Lk.av]; rfl)) (goes_run (mu := mu0) tab_ok (by simp; with_reducible rfl)) ?_ ?_
          · refine ag_plan (mu := mu0) (n := 4) [(10, true), (11, true), (12, true), (13, true)] tab_ok (by decide +kernel) ?_
            refine dh 4 ?_
            refine adr_nil ?_
            refine ag_one (i := 14) (by decide +kernel) (by decide) (goes_run (mu := mu0) tab_ok (by simp; with_reducible rfl)) ?_
            refine ag_one (i := 15) (by decide +kernel) (by decide) (goes_run (mu := mu0) tab_ok (by simp; with_reducible rfl)) ?_
            refine ag_one (i := 16) (by decide +kernel) (by decide) (goes_run (mu := mu0) tab_ok (by simp; with_reducible rfl)) ?_
            refine ag_one (i := 17) (by decide +kernel) (by decide) (goes_run (mu := mu0) tab_ok (by simp; with_reducible rfl)) ?_
            exact aw_done ⟨rfl, sb⟩ (by decide +kernel)
          · refine ag_one (i := 9) (by decide +kernel) (by decide) (goes_fn rfl rfl rfl rfl en73 (by simp [strs]) (sf73e hB (x := S[i]) (site := h.site) (br := h.br) (hv := hv) (nx := nx) (o1 := .shut) (o2 := .capped) hdv hxl hp hsl) (by simp [Lk.av]; rfl)) ?_
            refine aw_base [15, 16, 17] (by decide +kernel) ?_
            refine ag_plan (mu := mu0) (n := 3) [(10, true), (11, true), (12, true), (13, true)] tab_ok (by decide +kernel) ?_
            refine dh 4 ?_
            refine adr_nil ?_
            refine ag_one (i := 15) (by decide +kernel) (by decide) (goes_run (mu := mu0) tab_ok (by simp; with_reducible rfl)) ?_
            refine ag_one (i := 16) (by decide +kernel) (by decide) (goes_run (mu := mu0) tab_ok (by simp; with_reducible rfl)) ?_
            refine ag_one (i := 17) (by decide +kernel) (by decide) (goes_run (mu := mu0) tab_ok (by simp; with_reducible rfl)) ?_
            exact aw_done ⟨rfl, sb⟩ (by decide +kernel)
        · refine ag_one (i := 2) (by decide +kernel) (by decide) (goes_run (mu := mu0) tab_ok (by simp [-lookA, hl0, hl1]; with_reducible rfl)) ?_
          refine ag_one (i := 9) (by decide +kernel) (by decide) (goes_fn rfl rfl rfl rfl en73 (by simp [strs]) (sf73e hB (x := S[i]) (site := h.site) (br := h.br) (hv := hv) (nx := nx) (o1 := .shut) (o2 := .capped) hdv hxl hp hsl) (by simp [Lk.av]; rfl)) ?_
          refine aw_base [15, 16, 17] (by decide +kernel) ?_
          refine ag_plan (mu := mu0) (n := 3) [(10, true), (11, true), (12, true), (13, true)] tab_ok (by decide +kernel) ?_
          refine dh 4 ?_
          refine adr_nil ?_
          refine ag_one (i := 15) (by decide +kernel) (by decide) (goes_run (mu := mu0) tab_ok (by simp; with_reducible rfl)) ?_
          refine ag_one (i := 16) (by decide +kernel) (by decide) (goes_run (mu := mu0) tab_ok (by simp; with_reducible rfl)) ?_
          refine ag_one (i := 17) (by decide +kernel) (by decide) (goes_run (mu := mu0) tab_ok (by simp; with_reducible rfl)) ?_
          exact aw_done ⟨rfl, sb⟩ (by decide +kernel)
      · refine ag_two (i := 2) (j := 8) (by decide +kernel) (by decide) (goes_run (mu := mu0) tab_ok (by simp [-lookA, hl0, hl1]; with_reducible rfl)) (goes_run (mu := mu0) tab_ok (by simp; with_reducible rfl)) ?_ ?_
        · refine ag_one (i := 8) (by decide +kernel) (by decide) (goes_run (mu := mu0) tab_ok (by simp; with_reducible rfl)) ?_
          refine ag_one (i := 9) (by decide +kernel) (by decide) (goes_fn rfl rfl rfl rfl en73 (by simp [strs]) (sf73e hB (x := S[i]) (site := h.site) (br := h.br) (hv := hv) (nx := nx) (o1 := .shut) (o2 := .capped) hdv hxl hp hsl) (by simp [Lk.av]; rfl)) ?_
          refine aw_base [15, 16, 17] (by decide +kernel) ?_
          refine ag_plan (mu := mu0) (n := 3) [(10, true), (11, true), (12, true), (13, true)] tab_ok (by decide +kernel) ?_
          refine dh 4 ?_
          refine adr_nil ?_
          refine ag_one (i := 15) (by decide +kernel) (by decide) (goes_run (mu := mu0) tab_ok (by simp; with_reducible rfl)) ?_
          refine ag_one (i := 16) (by decide +kernel) (by decide) (goes_run (mu := mu0) tab_ok (by simp; with_reducible rfl)) ?_
          refine ag_one (i := 17) (by decide +kernel) (by decide) (goes_run (mu := mu0) tab_ok (by simp; with_reducible rfl)) ?_
          exact aw_done ⟨rfl, sb⟩ (by decide +kernel)
        · refine ag_one (i := 2) (by decide +kernel) (by decide) (goes_run (mu := mu0) tab_ok (by simp [-lookA, hl0, hl1]; with_reducible rfl)) ?_
          refine ag_one (i := 9) (by decide +kernel) (by decide) (goes_fn rfl rfl rfl rfl en73 (by simp [strs]) (sf73e hB (x := S[i]) (site := h.site) (br := h.br) (hv := hv) (nx := nx) (o1 := .shut) (o2 := .capped) hdv hxl hp hsl) (by simp [Lk.av]; rfl)) ?_
          refine aw_base [15, 16, 17] (by decide +kernel) ?_
          refine ag_plan (mu := mu0) (n := 3) [(10, true), (11, true), (12, true), (13, true)] tab_ok (by decide +kernel) ?_
          refine dh 4 ?_
          refine adr_nil ?_
          refine ag_one (i := 15) (by decide +kernel) (by decide) (goes_run (mu := mu0) tab_ok (by simp; with_reducible rfl)) ?_
          refine ag_one (i := 16) (by decide +kernel) (by decide) (goes_run (mu := mu0) tab_ok (by simp; with_reducible rfl)) ?_
          refine ag_one (i := 17) (by decide +kernel) (by decide) (goes_run (mu := mu0) tab_ok (by simp; with_reducible rfl)) ?_
          exact aw_done ⟨rfl, sb⟩ (by decide +kernel)
  · exact ⟨max H.hi.length Hc.hi.length, Nat.le_max_left _ _, fun hold => ⟨rfl, by rw [List.take_of_length_le (by omega)] at hwc; have : endsL out p = S.map (linkOf out p) := (by rw [endsL, hSo]); rw [this]; exact ⟨wko_end hwc.1 hlt (Nat.le_max_right _ _), hwc.2⟩, fr_end hlc hfc hold _⟩⟩
end Go.Av
