/-
  Go read by value: lemmas (part 32): N11.
-/
import Derived.Test.YtdeocbficanfaaaGreatDoorX31
set_option linter.unusedVariables false
set_option linter.unusedSimpArgs false
set_option linter.unusedSectionVars false
namespace Go.Av
open Go.Proofs
variable {W0 : World}
set_option maxRecDepth 10000
set_option maxHeartbeats 4000000
theorem declB_val1 (hB : LibOK W0) {U : List Str} {N : Nat} (hU : U.length ≤ 30000000) (ihm : ModB W0 U N) {n : Int} {a b : Str} {e : Tr} (sc : List Sc) (x : Stt) (p : Path) (o2 : Own) (H : Hp) (r ro : Nat) (w : Wk) (hN : (Tr.node 70 n a b [e]).cnt ≤ N + 1) (ha : a.length ≤ 128) (h : ExW e) (hso : SOK U x.S) (hoo : HsOK U x.Out) (hsr : SR sc x.S) (hg : GvO H ro x.Out) (hu : InU U (Tr.node 70 n a b [e])) (hpl : p.length + (N + 1) ≤ 10000) (hL : w.L.length + (Tr.node 70 n a b [e]).cnt ≤ 60000000) (hX : w.X.length + U.length * (Tr.node 70 n a b [e]).cnt ≤ 60000000) (hw : WKb H r w) (hne : ro ≠ r) :
    SF Tryz.prog W0 36 [.ref r 0, scAV sc, (Tr.node 70 n a b [e]).av, .sl 1 (ints p) o2, .mref ro] H fun y H' => (∃ sc', y = scAV sc' ∧ SR sc' (declW (N + 1) x (Tr.node 70 n a b [e]) p w).2.S) ∧ GvO H' ro (declW (N + 1) x (Tr.node 70 n a b [e]) p w).2.Out ∧ WKb H' r (declW (N + 1) x (Tr.node 70 n a b [e]) p w).1 ∧ Fr (fun j => j = r ∨ j = ro) H H' := by
  have hU6 : U.length ≤ 60000000 := by omega
  rw [declW_val1]
  have hlt := hw.lt
  have hlo := hg.lt
  have hwB := hw.more [.cells [scAV sc]]
  have hxB : StB ⟨H.objs ++ [.cells [scAV sc]], H.hi⟩ H.objs.length ro x := ⟨⟨sc, by simp, hsr⟩, hg.more _ _⟩
  have hen := en60
  simp only [Tr.cnt, Tr.cnts] at hN hL hX
  simp only [Tr.av]
  refine SF.cut (sf_start [10] 203 Tryz.func36 rfl rfl rfl (by decide) (by simp) ?_)
  repeat' first
    | refine aSq ?_ | refine aSk ?_ | refine aBl ?_ | refine tN ?_
    | (refine rg 0 ?_; refine aops_take 4 (mu := mu83) tab_ok (by simp; with_reducible rfl) ?_; refine dn ?_)
    | (refine dr 7 [(0, true), (1, true), (2, true), (3, true), (4, true), (5, true), (6, true), (7, true), (8, true), (9, true), (10, true), (11, false), (12, false)] [12] ?_; refine dh 1 ?_ (h := (by simp (disch := omega) [Tr.avs, small_if]; with_reducible rfl)); (first | (refine dh 1 ?_ (h := (by simp (disch := omega) [Tr.avs, small_if]; with_reducible rfl))) | (refine da 1 (fun _ => ?_) (h := (by simp (disch := omega) [Tr.avs, small_if]; with_reducible rfl)))); refine dh 3 ?_ (h := (by simp (disch := omega) [Tr.avs, small_if]; with_reducible rfl)); (first | (refine dh 1 ?_ (h := (by simp (disch := omega) [Tr.avs, small_if]; with_reducible rfl))) | (refine da 1 (fun _ => ?_) (h := (by simp (disch := omega) [Tr.avs, small_if]; with_reducible rfl)))); refine dh 2 ?_ (h := (by simp (disch := omega) [Tr.avs, small_if]; with_reducible rfl)); (first | (refine dh 1 ?_ (h := (by simp (disch := omega) [Tr.avs, small_if]; with_reducible rfl))) | (refine da 1 (fun _ => ?_) (h := (by simp (disch := omega) [Tr.avs, small_if]; with_reducible rfl)))); (first | (refine dh 1 ?_ (h := (by simp (disch := omega) [Tr.avs, small_if]; with_reducible rfl))) | (refine da 1 (fun _ => ?_) (h := (by simp (disch := omega) [Tr.avs, small_if]; with_reducible rfl)))); refine dh 1 ?_ (h := (by simp (disch := omega) [Tr.avs, small_if]; with_reducible rfl)); refine df en63 ?_; refine SF.then (sf63 (by omega)) ?_; refine ⟨.inr rfl, ?_⟩; refine df en64 ?_; refine (sf64 hB hU6 N e sc x.S (down p 0) .shut _ r w (by omega) h hso hsr (by rw [down_len]; omega) (by omega) hwB).mono ?_; rintro x1 H1 ⟨rfl, hwb, hfb⟩; have hx1 : StB H1 H.objs.length ro x := hxB.fr hfb (by omega) hne; refine ⟨.inl rfl, ?_⟩; refine adr_nil ?_)
    | (refine rg 8 ?_; refine tk 6 ?_ (by simp (disch := omega) [Tr.avs, small_if]; with_reducible rfl); refine aops_val rfl rfl rfl rfl rfl (by assumption) (by simp; rfl) ?_; refine (put60 x (118 :: 58 :: a) p o2 .mnil [] H1 H.objs.length ro hx1 .nil (by omega)).mono ?_; rintro x9 H2 ⟨rfl, hxc, hfc, hic⟩; refine dn ?_)
    | (refine ru ?_ (by simp (disch := omega) [Tr.avs, small_if]; with_reducible rfl))
    | (refine awp_if rfl (fun hb => ?_) (fun hb => ?_) <;> (try simp at hb) <;> try (exfalso; omega))
    | fail
  obtain ⟨⟨sc', h6, hs'⟩, hg'⟩ := hxc
  have hl2 : H.objs.length ≤ H2.objs.length := by have e1 := hfb.1; have e2 := hfc.1; simp only [List.length_append, List.length_singleton] at e1 e2; omega
  repeat' first
    | refine aRt ?_
    | (refine ru ?_ (by simp (disch := omega) [h6]; with_reducible rfl))
    | fail
  exact spb_end (x := x.put (118 :: 58 :: a) p []) hs' hg' (hwb.keep hfc (fun q => by rcases q with q | q <;> omega) hic) hlt hlo hl2 (fun j hj hn => ((hfc.2 j (fun q => by rcases q with q | q; omega; exact hn (.inr q))).trans (hfb.2 j (fun q => hn (.inl q)))).trans (List.getElem?_append_left hj))
theorem declB_val2 (hB : LibOK W0) {U : List Str} {N : Nat} (hU : U.length ≤ 30000000) (ihm : ModB W0 U N) {n : Int} {a b : Str} {t e : Tr} (sc : List Sc) (x : Stt) (p : Path) (o2 : Own) (H : Hp) (r ro : Nat) (w : Wk) (hN : (Tr.node 70 n a b [t, e]).cnt ≤ N + 1) (ha : a.length ≤ 128) (h1 : TyW t) (h : ExW e) (hso : SOK U x.S) (hoo : HsOK U x.Out) (hsr : SR sc x.S) (hg : GvO H ro x.Out) (hu : InU U (Tr.node 70 n a b [t, e])) (hpl : p.length + (N + 1) ≤ 10000) (hL : w.L.length + (Tr.node 70 n a b [t, e]).cnt ≤ 60000000) (hX : w.X.length + U.length * (Tr.node 70 n a b [t, e]).cnt ≤ 60000000) (hw : WKb H r w) (hne : ro ≠ r) :
    SF Tryz.prog W0 36 [.ref r 0, scAV sc, (Tr.node 70 n a b [t, e]).av, .sl 1 (ints p) o2, .mref ro] H fun y H' => (∃ sc', y = scAV sc' ∧ SR sc' (declW (N + 1) x (Tr.node 70 n a b [t, e]) p w).2.S) ∧ GvO H' ro (declW (N + 1) x (Tr.node 70 n a b [t, e]) p w).2.Out ∧ WKb H' r (declW (N + 1) x (Tr.node 70 n a b [t, e]) p w).1 ∧ Fr (fun j => j = r ∨ j = ro) H H' := by
  have hU6 : U.length ≤ 60000000 := by omega
  rw [declW_val2]
  have hlt := hw.lt
  have hlo := hg.lt
  have hwB := hw.more [.cells [scAV sc]]
  have hxB : StB ⟨H.objs ++ [.cells [scAV sc]], H.hi⟩ H.objs.length ro x := ⟨⟨sc, by simp, hsr⟩, hg.more _ _⟩
  have hen := en60
  simp only [Tr.cnt, Tr.cnts] at hN hL hX
  simp only [Tr.av]
  refine SF.cut (sf_start [10] 203 Tryz.func36 rfl rfl rfl (by decide) (by simp) ?_)
  repeat' first
    | refine aSq ?_ | refine aBl ?_ | refine tN ?_
    | (refine rg 0 ?_; refine aops_take 4 (mu := mu83) tab_ok (by simp; with_reducible rfl) ?_; refine dn ?_)
    | (refine dr 5 [(0, true), (1, true), (2, true), (3, true), (4, true), (5, true), (6, true), (7, true), (8, true), (9, false), (10, false)] [10] ?_; refine dh 1 ?_ (h := (by simp (disch := omega) [Tr.avs, small_if]; with_reducible rfl)); (first | (refine dh 1 ?_ (h := (by simp (disch := omega) [Tr.avs, small_if]; with_reducible rfl))) | (refine da 1 (fun _ => ?_) (h := (by simp (disch := omega) [Tr.avs, small_if]; with_reducible rfl)))); refine dh 3 ?_ (h := (by simp (disch := omega) [Tr.avs, small_if]; with_reducible rfl)); (first | (refine dh 1 ?_ (h := (by simp (disch := omega) [Tr.avs, small_if]; with_reducible rfl))) | (refine da 1 (fun _ => ?_) (h := (by simp (disch := omega) [Tr.avs, small_if]; with_reducible rfl)))); refine dh 1 ?_ (h := (by simp (disch := omega) [Tr.avs, small_if]; with_reducible rfl)); (first | (refine dh 1 ?_ (h := (by simp (disch := omega) [Tr.avs, small_if]; with_reducible rfl))) | (refine da 1 (fun _ => ?_) (h := (by simp (disch := omega) [Tr.avs, small_if]; with_reducible rfl)))); (first | (refine dh 1 ?_ (h := (by simp (disch := omega) [Tr.avs, small_if]; with_reducible rfl))) | (refine da 1 (fun _ => ?_) (h := (by simp (disch := omega) [Tr.avs, small_if]; with_reducible rfl)))); refine df en63 ?_; refine SF.then (sf63 (by omega)) ?_; refine ⟨.inr rfl, ?_⟩; refine df en62 ?_; refine (sf62 hB hU6 N t sc x.S (down p 0) .shut _ r w (by omega) h1 hso hsr (by rw [down_len]; omega) (by omega) hwB).mono ?_; rintro x0 H0 ⟨rfl, hwa, hfa⟩; have hx0 : StB H0 H.objs.length ro x := hxB.fr hfa (by omega) hne; refine ⟨.inl rfl, ?_⟩; refine adr_nil ?_)
    | (refine ru ?_ (by simp (disch := omega) [Tr.avs, small_if]; with_reducible rfl))
    | (refine awp_if rfl (fun hb => ?_) (fun hb => ?_) <;> (try simp at hb) <;> try (exfalso; omega))
    | fail
  have q4 := typW_len N x.S t (down p 0) w
  have h60 : H0.objs[H.objs.length]? = some (.cells [scAV sc]) := (hfa.2 _ (by omega)).trans (by simp)
  repeat' first
    | refine aSq ?_ | refine tN ?_
    | (refine dr 7 [(0, true), (1, true), (2, true), (3, true), (4, true), (5, true), (6, true), (7, true), (8, true), (9, true), (10, true), (11, false), (12, false)] [12] ?_; refine dh 1 ?_ (h := (by simp (disch := omega) [Tr.avs, small_if, h60]; with_reducible rfl)); (first | (refine dh 1 ?_ (h := (by simp (disch := omega) [Tr.avs, small_if, h60]; with_reducible rfl))) | (refine da 1 (fun _ => ?_) (h := (by simp (disch := omega) [Tr.avs, small_if, h60]; with_reducible rfl)))); refine dh 3 ?_ (h := (by simp (disch := omega) [Tr.avs, small_if, h60]; with_reducible rfl)); (first | (refine dh 1 ?_ (h := (by simp (disch := omega) [Tr.avs, small_if, h60]; with_reducible rfl))) | (refine da 1 (fun _ => ?_) (h := (by simp (disch := omega) [Tr.avs, small_if, h60]; with_reducible rfl)))); refine dh 2 ?_ (h := (by simp (disch := omega) [Tr.avs, small_if, h60]; with_reducible rfl)); (first | (refine dh 1 ?_ (h := (by simp (disch := omega) [Tr.avs, small_if, h60]; with_reducible rfl))) | (refine da 1 (fun _ => ?_) (h := (by simp (disch := omega) [Tr.avs, small_if, h60]; with_reducible rfl)))); (first | (refine dh 1 ?_ (h := (by simp (disch := omega) [Tr.avs, small_if, h60]; with_reducible rfl))) | (refine da 1 (fun _ => ?_) (h := (by simp (disch := omega) [Tr.avs, small_if, h60]; with_reducible rfl)))); refine dh 1 ?_ (h := (by simp (disch := omega) [Tr.avs, small_if, h60]; with_reducible rfl)); refine df en63 ?_; refine SF.then (sf63 (by omega)) ?_; refine ⟨.inr rfl, ?_⟩; refine df en64 ?_; refine (sf64 hB hU6 N e sc x.S (down p 1) .shut H0 r _ (by omega) h hso hsr (by rw [down_len]; omega) (by have := q4.1; omega) hwa).mono ?_; rintro x1 H1 ⟨rfl, hwb, hfb1⟩; have hfb := hfa.trans hfb1; have hx1 : StB H1 H.objs.length ro x := hxB.fr hfb (by omega) hne; refine ⟨.inl rfl, ?_⟩; refine adr_nil ?_)
    | (refine rg 8 ?_; refine tk 6 ?_ (by simp (disch := omega) [Tr.avs, small_if, h60]; with_reducible rfl); refine aops_val rfl rfl rfl rfl rfl (by assumption) (by simp; rfl) ?_; refine (put60 x (118 :: 58 :: a) p o2 .mnil [] H1 H.objs.length ro hx1 .nil (by omega)).mono ?_; rintro x9 H2 ⟨rfl, hxc, hfc, hic⟩; refine dn ?_)
    | fail
  obtain ⟨⟨sc', h6, hs'⟩, hg'⟩ := hxc
  have hl2 : H.objs.length ≤ H2.objs.length := by have e1 := hfb.1; have e2 := hfc.1; simp only [List.length_append, List.length_singleton] at e1 e2; omega
  repeat' first
    | refine aRt ?_
    | (refine ru ?_ (by simp (disch := omega) [h6]; with_reducible rfl))
    | fail
  exact spb_end (x := x.put (118 :: 58 :: a) p []) hs' hg' (hwb.keep hfc (fun q => by rcases q with q | q <;> omega) hic) hlt hlo hl2 (fun j hj hn => ((hfc.2 j (fun q => by rcases q with q | q; omega; exact hn (.inr q))).trans (hfb.2 j (fun q => hn (.inl q)))).trans (List.getElem?_append_left hj))
theorem declB_typ (hB : LibOK W0) {U : List Str} {N : Nat} (hU : U.length ≤ 30000000) (ihm : ModB W0 U N) {n : Int} {a b : Str} {t : Tr} (sc : List Sc) (x : Stt) (p : Path) (o2 : Own) (H : Hp) (r ro : Nat) (w : Wk) (hN : (Tr.node 71 n a b [t]).cnt ≤ N + 1) (ha : a.length ≤ 128) (h : TyW t) (hso : SOK U x.S) (hoo : HsOK U x.Out) (hsr : SR sc x.S) (hg : GvO H ro x.Out) (hu : InU U (Tr.node 71 n a b [t])) (hpl : p.length + (N + 1) ≤ 10000) (hL : w.L.length + (Tr.node 71 n a b [t]).cnt ≤ 60000000) (hX : w.X.length + U.length * (Tr.node 71 n a b [t]).cnt ≤ 60000000) (hw : WKb H r w) (hne : ro ≠ r) :
    SF Tryz.prog W0 36 [.ref r 0, scAV sc, (Tr.node 71 n a b [t]).av, .sl 1 (ints p) o2, .mref ro] H fun y H' => (∃ sc', y = scAV sc' ∧ SR sc' (declW (N + 1) x (Tr.node 71 n a b [t]) p w).2.S) ∧ GvO H' ro (declW (N + 1) x (Tr.node 71 n a b [t]) p w).2.Out ∧ WKb H' r (declW (N + 1) x (Tr.node 71 n a b [t]) p w).1 ∧ Fr (fun j => j = r ∨ j = ro) H H' := by
  have hU6 : U.length ≤ 60000000 := by omega
  rw [declW_typ]
  have hlt := hw.lt
  have hlo := hg.lt
  have hwB := hw.more [.cells [scAV sc]]
  have hxB : StB ⟨H.objs ++ [.cells [scAV sc]], H.hi⟩ H.objs.length ro x := ⟨⟨sc, by simp, hsr⟩, hg.more _ _⟩
  have hen := en60
  simp only [Tr.cnt, Tr.cnts] at hN hL hX
  simp only [Tr.av]
  refine SF.cut (sf_start [10] 203 Tryz.func36 rfl rfl rfl (by decide) (by simp) ?_)
  repeat' first
    | refine aSq ?_ | refine aBl ?_ | refine tN ?_
    | (refine rg 0 ?_; refine aops_take 4 (mu := mu83) tab_ok (by simp; with_reducible rfl) ?_; refine dn ?_)
    | (refine dr 10 [(0, true), (1, true), (2, true), (3, true), (4, true), (5, true), (6, true), (7, true), (8, true), (9, false), (10, false)] [10] ?_; refine dh 1 ?_ (h := (by simp (disch := omega) [Tr.avs, small_if]; with_reducible rfl)); (first | (refine dh 1 ?_ (h := (by simp (disch := omega) [Tr.avs, small_if]; with_reducible rfl))) | (refine da 1 (fun _ => ?_) (h := (by simp (disch := omega) [Tr.avs, small_if]; with_reducible rfl)))); refine dh 3 ?_ (h := (by simp (disch := omega) [Tr.avs, small_if]; with_reducible rfl)); (first | (refine dh 1 ?_ (h := (by simp (disch := omega) [Tr.avs, small_if]; with_reducible rfl))) | (refine da 1 (fun _ => ?_) (h := (by simp (disch := omega) [Tr.avs, small_if]; with_reducible rfl)))); refine dh 1 ?_ (h := (by simp (disch := omega) [Tr.avs, small_if]; with_reducible rfl)); (first | (refine dh 1 ?_ (h := (by simp (disch := omega) [Tr.avs, small_if]; with_reducible rfl))) | (refine da 1 (fun _ => ?_) (h := (by simp (disch := omega) [Tr.avs, small_if]; with_reducible rfl)))); (first | (refine dh 1 ?_ (h := (by simp (disch := omega) [Tr.avs, small_if]; with_reducible rfl))) | (refine da 1 (fun _ => ?_) (h := (by simp (disch := omega) [Tr.avs, small_if]; with_reducible rfl)))); refine df en63 ?_; refine SF.then (sf63 (by omega)) ?_; refine ⟨.inr rfl, ?_⟩; refine df en62 ?_; refine (sf62 hB hU6 N t sc x.S (down p 0) .shut _ r w (by omega) h hso hsr (by rw [down_len]; omega) (by omega) hwB).mono ?_; rintro x1 H1 ⟨rfl, hwb, hfb⟩; have hx1 : StB H1 H.objs.length ro x := hxB.fr hfb (by omega) hne; refine ⟨.inl rfl, ?_⟩; refine adr_nil ?_)
    | (refine rg 11 ?_; refine tk 6 ?_ (by simp (disch := omega) [Tr.avs, small_if]; with_reducible rfl); refine aops_val rfl rfl rfl rfl rfl (by assumption) (by simp; rfl) ?_; refine (put60 x (116 :: 58 :: a) p o2 .mnil [] H1 H.objs.length ro hx1 .nil (by omega)).mono ?_; rintro x9 H2 ⟨rfl, hxc, hfc, hic⟩; refine dn ?_)
    | (refine ru ?_ (by simp (disch := omega) [Tr.avs, small_if]; with_reducible rfl))
    | (refine awp_if rfl (fun hb => ?_) (fun hb => ?_) <;> (try simp at hb) <;> try (exfalso; omega))
    | fail
  obtain ⟨⟨sc', h6, hs'⟩, hg'⟩ := hxc
  have hl2 : H.objs.length ≤ H2.objs.length := by have e1 := hfb.1; have e2 := hfc.1; simp only [List.length_append, List.length_singleton] at e1 e2; omega
  repeat' first
    | refine aRt ?_
    | (refine ru ?_ (by simp (disch := omega) [h6]; with_reducible rfl))
    | fail
  exact spb_end (x := x.put (116 :: 58 :: a) p []) hs' hg' (hwb.keep hfc (fun q => by rcases q with q | q <;> omega) hic) hlt hlo hl2 (fun j hj hn => ((hfc.2 j (fun q => by rcases q with q | q; omega; exact hn (.inr q))).trans (hfb.2 j (fun q => hn (.inl q)))).trans (List.getElem?_append_left hj))
theorem declB_data (hB : LibOK W0) {U : List Str} {N : Nat} (hU : U.length ≤ 30000000) (ihm : ModB W0 U N) {n : Int} {a b : Str} {l : List Tr} (sc : List Sc) (x : Stt) (p : Path) (o2 : Own) (H : Hp) (r ro : Nat) (w : Wk) (hN : (Tr.node 72 n a b l).cnt ≤ N + 1) (h8 : ∀ t ∈ l, t.kind = 8) (h : TyW (.node 72 n a b l)) (hso : SOK U x.S) (hoo : HsOK U x.Out) (hsr : SR sc x.S) (hg : GvO H ro x.Out) (hu : InU U (Tr.node 72 n a b l)) (hpl : p.length + (N + 1) ≤ 10000) (hL : w.L.length + (Tr.node 72 n a b l).cnt ≤ 60000000) (hX : w.X.length + U.length * (Tr.node 72 n a b l).cnt ≤ 60000000) (hw : WKb H r w) (hne : ro ≠ r) :
    SF Tryz.prog W0 36 [.ref r 0, scAV sc, (Tr.node 72 n a b l).av, .sl 1 (ints p) o2, .mref ro] H fun y H' => (∃ sc', y = scAV sc' ∧ SR sc' (declW (N + 1) x (Tr.node 72 n a b l) p w).2.S) ∧ GvO H' ro (declW (N + 1) x (Tr.node 72 n a b l) p w).2.Out ∧ WKb H' r (declW (N + 1) x (Tr.node 72 n a b l) p w).1 ∧ Fr (fun j => j = r ∨ j = ro) H H' := by
  have hU6 : U.length ≤ 60000000 := by omega
  rw [declW_data]
  have hlt := hw.lt
  have hlo := hg.lt
  have hwB := hw.more [.cells [scAV sc]]
  have hxB : StB ⟨H.objs ++ [.cells [scAV sc]], H.hi⟩ H.objs.length ro x := ⟨⟨sc, by simp, hsr⟩, hg.more _ _⟩
  have hen := en60
  have h65 := sf65 (W0 := W0) (o2 := o2) (o3 := o2) (p := p) hB en60 put60 hU6 hN h h8 hso hsr (by omega) (by omega) hwB hxB (by omega) (by omega) hne
  simp only [Tr.av] at h65 ⊢
  refine SF.cut (sf_start [10] 203 Tryz.func36 rfl rfl rfl (by decide) (by simp) ?_)
  repeat' first
    | refine aSq ?_ | refine aBl ?_ | refine tN ?_
    | (refine rg 0 ?_; refine aops_take 4 (mu := mu83) tab_ok (by simp; with_reducible rfl) ?_; refine dn ?_)
    | (refine rg 13 ?_; refine tk 5 ?_ (by simp (disch := omega) [small_if]; with_reducible rfl); refine fc en65 ?_; refine h65.mono ?_; rintro x1 H2 ⟨rfl, hwb, hxc, hfc⟩; refine dn ?_)
    | (refine ru ?_ (by simp (disch := omega) [small_if]; with_reducible rfl))
    | (refine awp_if rfl (fun hb => ?_) (fun hb => ?_) <;> (try simp at hb) <;> try (exfalso; omega))
    | fail
  obtain ⟨⟨sc', h6, hs'⟩, hg'⟩ := hxc
  have hl2 : H.objs.length ≤ H2.objs.length := by have e2 := hfc.1; simp only [List.length_append, List.length_singleton] at e2; omega
  repeat' first
    | refine aRt ?_
    | (refine ru ?_ (by simp (disch := omega) [h6]; with_reducible rfl))
    | fail
  exact spb_end (x := (dataW (N + 1) x (.node 72 n a b l) p w).2) hs' hg' hwb hlt hlo hl2 (fun j hj hn => (hfc.2 j (fun q => by rcases q with q | q | q; exact hn (.inl q); omega; exact hn (.inr q))).trans (List.getElem?_append_left hj))
theorem declB_str (hB : LibOK W0) {U : List Str} {N : Nat} (hU : U.length ≤ 30000000) (ihm : ModB W0 U N) {n : Int} {a b : Str} {m : Tr} (sc : List Sc) (x : Stt) (p : Path) (o2 : Own) (H : Hp) (r ro : Nat) (w : Wk) (hN : (Tr.node 73 n a b [m]).cnt ≤ N + 1) (ha : a.length ≤ 128) (h : MdW m) (hso : SOK U x.S) (hoo : HsOK U x.Out) (hsr : SR sc x.S) (hg : GvO H ro x.Out) (hu : InU U (Tr.node 73 n a b [m])) (hpl : p.length + (N + 1) ≤ 10000) (hL : w.L.length + (Tr.node 73 n a b [m]).cnt ≤ 60000000) (hX : w.X.length + U.length * (Tr.node 73 n a b [m]).cnt ≤ 60000000) (hw : WKb H r w) (hne : ro ≠ r) :
    SF Tryz.prog W0 36 [.ref r 0, scAV sc, (Tr.node 73 n a b [m]).av, .sl 1 (ints p) o2, .mref ro] H fun y H' => (∃ sc', y = scAV sc' ∧ SR sc' (declW (N + 1) x (Tr.node 73 n a b [m]) p w).2.S) ∧ GvO H' ro (declW (N + 1) x (Tr.node 73 n a b [m]) p w).2.Out ∧ WKb H' r (declW (N + 1) x (Tr.node 73 n a b [m]) p w).1 ∧ Fr (fun j => j = r ∨ j = ro) H H' := by
  have hU6 : U.length ≤ 60000000 := by omega
  rw [declW_str]
  have hlt := hw.lt
  have hlo := hg.lt
  have hwB := hw.more [.cells [scAV sc]]
  have hxB : StB ⟨H.objs ++ [.cells [scAV sc]], H.hi⟩ H.objs.length ro x := ⟨⟨sc, by simp, hsr⟩, hg.more _ _⟩
  have hen := en60
  have hum := hu.kids.head
  have hm2 : U.length * m.cnt ≤ U.length * (1 + (m.cnt + 0)) := mul_le _ (by omega)
  simp only [Tr.cnt, Tr.cnts] at hN hL hX
  simp only [Tr.av]
  refine SF.cut (sf_start [10] 203 Tryz.func36 rfl rfl rfl (by decide) (by simp) ?_)
  repeat' first
    | refine aSq ?_ | refine aBl ?_ | refine tN ?_
    | (refine rg 0 ?_; refine aops_take 4 (mu := mu83) tab_ok (by simp; with_reducible rfl) ?_; refine dn ?_)
    | (refine dr 15 [(0, true), (1, true), (2, true), (3, true), (4, true), (5, true), (6, true), (7, true), (8, true), (9, true), (10, true), (11, true), (12, true), (13, true), (14, true), (15, false), (16, false), (17, false)] [16, 17] ?_; refine dh 4 ?_ (h := (by simp (disch := omega) [Tr.avs, small_if]; with_reducible rfl)); (first | (refine dh 1 ?_ (h := (by simp (disch := omega) [Tr.avs, small_if]; with_reducible rfl))) | (refine da 1 (fun _ => ?_) (h := (by simp (disch := omega) [Tr.avs, small_if]; with_reducible rfl)))); refine dh 2 ?_ (h := (by simp (disch := omega) [Tr.avs, small_if]; with_reducible rfl)); (first | (refine dh 1 ?_ (h := (by simp (disch := omega) [Tr.avs, small_if]; with_reducible rfl))) | (refine da 1 (fun _ => ?_) (h := (by simp (disch := omega) [Tr.avs, small_if]; with_reducible rfl)))); refine dh 3 ?_ (h := (by simp (disch := omega) [Tr.avs, small_if]; with_reducible rfl)); (first | (refine dh 1 ?_ (h := (by simp (disch := omega) [Tr.avs, small_if]; with_reducible rfl))) | (refine da 1 (fun _ => ?_) (h := (by simp (disch := omega) [Tr.avs, small_if]; with_reducible rfl)))); refine dh 1 ?_ (h := (by simp (disch := omega) [Tr.avs, small_if]; with_reducible rfl)); (first | (refine dh 1 ?_ (h := (by simp (disch := omega) [Tr.avs, small_if]; with_reducible rfl))) | (refine da 1 (fun _ => ?_) (h := (by simp (disch := omega) [Tr.avs, small_if]; with_reducible rfl)))); (first | (refine dh 1 ?_ (h := (by simp (disch := omega) [Tr.avs, small_if]; with_reducible rfl))) | (refine da 1 (fun _ => ?_) (h := (by simp (disch := omega) [Tr.avs, small_if]; with_reducible rfl)))); refine df en63 ?_; refine SF.then (sf63 (by omega)) ?_; refine ⟨.inr rfl, ?_⟩; refine df en66 ?_; refine (ihm m sc x.S (down p 0) .shut _ r w (by omega) h hso hsr hum (by rw [down_len]; omega) (by omega) (by omega) hwB).mono ?_; rintro x1 H1 ⟨hR, hwb, hfb⟩; have hx1 : StB H1 H.objs.length ro x := hxB.fr hfb (by omega) hne; refine ⟨.inl rfl, ?_⟩; refine adr_val rfl rfl rfl rfl rfl rfl (by assumption) (by simp; rfl) ?_; refine (put60 x (109 :: 58 :: a) p o2 x1 _ H1 H.objs.length ro hx1 hR (by omega)).mono ?_; rintro x9 H2 ⟨rfl, hxc, hfc, hic⟩; refine ⟨.inl rfl, ?_⟩; refine adr_nil ?_)
    | (refine ru ?_ (by simp (disch := omega) [Tr.avs, small_if]; with_reducible rfl))
    | (refine awp_if rfl (fun hb => ?_) (fun hb => ?_) <;> (try simp at hb) <;> try (exfalso; omega))
    | fail
  obtain ⟨⟨sc', h6, hs'⟩, hg'⟩ := hxc
  have hl2 : H.objs.length ≤ H2.objs.length := by have e1 := hfb.1; have e2 := hfc.1; simp only [List.length_append, List.length_singleton] at e1 e2; omega
  repeat' first
    | refine aRt ?_
    | (refine ru ?_ (by simp (disch := omega) [h6]; with_reducible rfl))
    | fail
  exact spb_end (x := x.put (109 :: 58 :: a) p (modW N x.S m (down p 0) w).2) hs' hg' (hwb.keep hfc (fun q => by rcases q with q | q <;> omega) hic) hlt hlo hl2 (fun j hj hn => ((hfc.2 j (fun q => by rcases q with q | q; omega; exact hn (.inr q))).trans (hfb.2 j (fun q => hn (.inl q)))).trans (List.getElem?_append_left hj))
theorem declB_opn (hB : LibOK W0) {U : List Str} {N : Nat} (hU : U.length ≤ 30000000) (ihm : ModB W0 U N) {n : Int} {a b : Str}  (sc : List Sc) (x : Stt) (p : Path) (o2 : Own) (H : Hp) (r ro : Nat) (w : Wk) (hN : (Tr.node 76 n a b []).cnt ≤ N + 1) (h : longB a = true) (hso : SOK U x.S) (hoo : HsOK U x.Out) (hsr : SR sc x.S) (hg : GvO H ro x.Out) (hu : InU U (Tr.node 76 n a b [])) (hpl : p.length + (N + 1) ≤ 10000) (hL : w.L.length + (Tr.node 76 n a b []).cnt ≤ 60000000) (hX : w.X.length + U.length * (Tr.node 76 n a b []).cnt ≤ 60000000) (hw : WKb H r w) (hne : ro ≠ r) :
    SF Tryz.prog W0 36 [.ref r 0, scAV sc, (Tr.node 76 n a b []).av, .sl 1 (ints p) o2, .mref ro] H fun y H' => (∃ sc', y = scAV sc' ∧ SR sc' (declW (N + 1) x (Tr.node 76 n a b []) p w).2.S) ∧ GvO H' ro (declW (N + 1) x (Tr.node 76 n a b []) p w).2.Out ∧ WKb H' r (declW (N + 1) x (Tr.node 76 n a b []) p w).1 ∧ Fr (fun j => j = r ∨ j = ro) H H' := by
  have hU6 : U.length ≤ 60000000 := by omega
  rw [declW_opn]
  have hlt := hw.lt
  have hlo := hg.lt
  have hwB := hw.more [.cells [scAV sc]]
  have hxB : StB ⟨H.objs ++ [.cells [scAV sc]], H.hi⟩ H.objs.length ro x := ⟨⟨sc, by simp, hsr⟩, hg.more _ _⟩
  have hen := en60
  have hok := refer_ok (w := w) (p := p) (sp := [109]) (long := a) hso
  have hil := hok.len
  simp only [Tr.cnt, Tr.cnts] at hN hL hX
  simp only [Tr.av]
  refine SF.cut (sf_start [10] 203 Tryz.func36 rfl rfl rfl (by decide) (by simp) ?_)
  repeat' first
    | refine aSq ?_ | refine aBl ?_ | refine tN ?_
    | (refine rg 0 ?_; refine aops_take 4 (mu := mu83) tab_ok (by simp; with_reducible rfl) ?_; refine dn ?_)
    | (refine ru ?_ (by simp (disch := omega) [small_if]; with_reducible rfl))
    | (refine awp_if rfl (fun hb => ?_) (fun hb => ?_) <;> (try simp at hb) <;> try (exfalso; omega))
    | fail
  refine awp_drawJ (id := 17) (fun X => X.objs[H.objs.length]? = some (.cells [scAV sc])) [(0, true), (1, true), (2, true), (3, true), (4, true), (5, true), (6, true), (7, true), (9, true), (8, false), (10, false), (11, false)] [11] tab_ok mixedT (by decide +kernel) (by simp) ?_
  refine adj_fixN (mu := mu0) rfl (by decide +kernel) rfl (by simp) (fun X hX => by simp [hX, Tr.avs]; rfl) (by simp; rfl) ?_
  refine adj_fixN (mu := mu0) rfl (by decide +kernel) rfl (by simp) (fun X hX => by simp [hX, Tr.avs]; rfl) (by simp; rfl) ?_
  refine adj_fixN (mu := mu0) rfl (by decide +kernel) rfl (by simp) (fun X hX => by simp [hX, Tr.avs]; rfl) (by simp; rfl) ?_
  refine adj_fixN (mu := mu0) rfl (by decide +kernel) rfl (by simp) (fun X hX => by simp [hX, Tr.avs]; rfl) (by simp; rfl) ?_
  refine adj_fixN (mu := mu0) rfl (by decide +kernel) rfl (by simp) (fun X hX => by simp [hX, Tr.avs]; rfl) (by simp; rfl) ?_
  refine adj_fixN (mu := mu0) rfl (by decide +kernel) rfl (by simp) (fun X hX => by simp [hX, Tr.avs]; rfl) (by simp; rfl) ?_
  refine adj_fixN (mu := mu0) rfl (by decide +kernel) rfl (by simp) (fun X hX => by simp [hX, Tr.avs]; rfl) (by simp; rfl) ?_
  refine adj_fixN (mu := mu0) rfl (by decide +kernel) rfl (by simp) (fun X hX => by simp [hX, Tr.avs]; rfl) (by simp; rfl) ?_
  refine adj_fixN (mu := mu0) rfl (by decide +kernel) rfl (by simp) (fun X hX => by simp [hX, Tr.avs]; rfl) (by simp; rfl) ?_
  refine adj_fn rfl rfl rfl rfl rfl en68 (by simp; rfl) ?_
  refine (sf68 hB hso hsr (by omega) (by simp) h hwB (by omega)).mono ?_
  rintro x1 H1 ⟨hR, hwb, hfb⟩
  have hob1 : H1.objs[H.objs.length]? = some (.cells [scAV sc]) := (hfb.2 _ (by omega)).trans (by simp)
  have hg1 : GvO H1 ro x.Out := (hg.more _ _).fr hfb hne
  refine ⟨.inr hob1, ?_⟩
  refine adj_fn rfl rfl rfl rfl rfl en67 (by simp; rfl) ?_
  refine (sf67 hB hsr hR (by omega) hok.hi).mono ?_
  rintro x2 H2 ⟨rfl, sc2, rfl, hs2⟩
  refine ⟨.inr hob1, ?_⟩
  refine adj_stepN (mu := mu0) tab_ok rfl (by simp [hob1]; first | exact ⟨rfl, rfl⟩ | rfl) (.inl rfl) (by simp; rfl) ?_
  refine adj_nil ?_
  have hl2 : H.objs.length ≤ H2.objs.length := by have e1 := hfb.1; simp only [List.length_append, List.length_singleton] at e1; omega
  have h7 : ∀ o : AObj, (H2.objs.set H.objs.length o)[H.objs.length]? = some o := fun o => List.getElem?_set_self (obj_lt hob1)
  repeat' first
    | refine aSq ?_ | refine aRt ?_
    | (refine ru ?_ (by simp (disch := omega) [h7]; with_reducible rfl))
    | fail
  refine spb_end (x := ⟨bringB x.S (refer w x.S p [109] a).2 p, x.Out⟩) hs2 (hg1.set _ (by omega)) (hwb.put _ (by omega)) hlt hlo (by simpa using hl2) (fun j hj hn => ?_)
  simp only
  rw [List.getElem?_set_ne (by omega)]
  exact (hfb.2 j (fun q => hn (.inl q))).trans (List.getElem?_append_left hj)
theorem declB_inc (hB : LibOK W0) {U : List Str} {N : Nat} (hU : U.length ≤ 30000000) (ihm : ModB W0 U N) {n : Int} {a b : Str}  (sc : List Sc) (x : Stt) (p : Path) (o2 : Own) (H : Hp) (r ro : Nat) (w : Wk) (hN : (Tr.node 77 n a b []).cnt ≤ N + 1) (h : longB a = true) (hso : SOK U x.S) (hoo : HsOK U x.Out) (hsr : SR sc x.S) (hg : GvO H ro x.Out) (hu : InU U (Tr.node 77 n a b [])) (hpl : p.length + (N + 1) ≤ 10000) (hL : w.L.length + (Tr.node 77 n a b []).cnt ≤ 60000000) (hX : w.X.length + U.length * (Tr.node 77 n a b []).cnt ≤ 60000000) (hw : WKb H r w) (hne : ro ≠ r) :
    SF Tryz.prog W0 36 [.ref r 0, scAV sc, (Tr.node 77 n a b []).av, .sl 1 (ints p) o2, .mref ro] H fun y H' => (∃ sc', y = scAV sc' ∧ SR sc' (declW (N + 1) x (Tr.node 77 n a b []) p w).2.S) ∧ GvO H' ro (declW (N + 1) x (Tr.node 77 n a b []) p w).2.Out ∧ WKb H' r (declW (N + 1) x (Tr.node 77 n a b []) p w).1 ∧ Fr (fun j => j = r ∨ j = ro) H H' := by
  have hU6 : U.length ≤ 60000000 := by omega
  rw [declW_inc]
  have hlt := hw.lt
  have hlo := hg.lt
  have hwB := hw.more [.cells [scAV sc]]
  have hxB : StB ⟨H.objs ++ [.cells [scAV sc]], H.hi⟩ H.objs.length ro x := ⟨⟨sc, by simp, hsr⟩, hg.more _ _⟩
  have hen := en60
  have hok := refer_ok (w := w) (p := p) (sp := [109]) (long := a) hso
  have hil := hok.len
  simp only [Tr.cnt, Tr.cnts] at hN hL hX
  simp only [Tr.av]
  refine SF.cut (sf_start [10] 203 Tryz.func36 rfl rfl rfl (by decide) (by simp) ?_)
  repeat' first
    | refine aSq ?_ | refine aBl ?_ | refine tN ?_
    | (refine rg 0 ?_; refine aops_take 4 (mu := mu83) tab_ok (by simp; with_reducible rfl) ?_; refine dn ?_)
    | (refine ru ?_ (by simp (disch := omega) [small_if]; with_reducible rfl))
    | (refine awp_if rfl (fun hb => ?_) (fun hb => ?_) <;> (try simp at hb) <;> try (exfalso; omega))
    | fail
  refine awp_drawJ (id := 19) (fun X => X.objs[H.objs.length]? = some (.cells [scAV sc])) [(0, true), (1, true), (2, true), (3, true), (4, true), (5, true), (6, true), (7, true), (9, true), (10, true), (8, false), (11, false), (12, false)] [12] tab_ok mixedT (by decide +kernel) (by simp) ?_
  refine adj_fixN (mu := mu0) rfl (by decide +kernel) rfl (by simp) (fun X hX => by simp [hX, Tr.avs]; rfl) (by simp; rfl) ?_
  refine adj_fixN (mu := mu0) rfl (by decide +kernel) rfl (by simp) (fun X hX => by simp [hX, Tr.avs]; rfl) (by simp; rfl) ?_
  refine adj_fixN (mu := mu0) rfl (by decide +kernel) rfl (by simp) (fun X hX => by simp [hX, Tr.avs]; rfl) (by simp; rfl) ?_
  refine adj_fixN (mu := mu0) rfl (by decide +kernel) rfl (by simp) (fun X hX => by simp [hX, Tr.avs]; rfl) (by simp; rfl) ?_
  refine adj_fixN (mu := mu0) rfl (by decide +kernel) rfl (by simp) (fun X hX => by simp [hX, Tr.avs]; rfl) (by simp; rfl) ?_
  refine adj_fixN (mu := mu0) rfl (by decide +kernel) rfl (by simp) (fun X hX => by simp [hX, Tr.avs]; rfl) (by simp; rfl) ?_
  refine adj_fixN (mu := mu0) rfl (by decide +kernel) rfl (by simp) (fun X hX => by simp [hX, Tr.avs]; rfl) (by simp; rfl) ?_
  refine adj_fixN (mu := mu0) rfl (by decide +kernel) rfl (by simp) (fun X hX => by simp [hX, Tr.avs]; rfl) (by simp; rfl) ?_
  refine adj_fixN (mu := mu0) rfl (by decide +kernel) rfl (by simp) (fun X hX => by simp [hX, Tr.avs]; rfl) (by simp; rfl) ?_
  refine adj_fixN (mu := mu0) rfl (by decide +kernel) rfl (by simp) (fun X hX => by simp [hX, Tr.avs]; rfl) (by simp; rfl) ?_
  refine adj_fn rfl rfl rfl rfl rfl en68 (by simp; rfl) ?_
  refine (sf68 hB hso hsr (by omega) (by simp) h hwB (by omega)).mono ?_
  rintro x1 H1 ⟨hR, hwb, hfb⟩
  have hob1 : H1.objs[H.objs.length]? = some (.cells [scAV sc]) := (hfb.2 _ (by omega)).trans (by simp)
  have hg1 : GvO H1 ro x.Out := (hg.more _ _).fr hfb hne
  refine ⟨.inr hob1, ?_⟩
  refine adj_fn rfl rfl rfl rfl rfl en69 (by simp; rfl) ?_
  refine (sf69 hB hsr hR (by omega) hok.hi hg1).mono ?_
  rintro x2 H2 ⟨⟨sc2, rfl, hs2⟩, hg2, hf2, hi2⟩
  have hob2 : H2.objs[H.objs.length]? = some (.cells [scAV sc]) := (hf2.2 _ (by omega)).trans hob1
  refine ⟨.inr hob2, ?_⟩
  refine adj_stepN (mu := mu0) tab_ok rfl (by simp [hob2]; first | exact ⟨rfl, rfl⟩ | rfl) (.inl rfl) (by simp; rfl) ?_
  refine adj_nil ?_
  have hl2 : H.objs.length ≤ H2.objs.length := by have e1 := hfb.1; have e2 := hf2.1; simp only [List.length_append, List.length_singleton] at e1 e2; omega
  have h7 : ∀ o : AObj, (H2.objs.set H.objs.length o)[H.objs.length]? = some o := fun o => List.getElem?_set_self (obj_lt hob2)
  repeat' first
    | refine aSq ?_ | refine aRt ?_
    | (refine ru ?_ (by simp (disch := omega) [h7]; with_reducible rfl))
    | fail
  have hwd := hwb.keep hf2 (by omega) hi2
  refine spb_end (x := ⟨bringB x.S (refer w x.S p [109] a).2 p, putAll x.Out (refer w x.S p [109] a).2 p⟩) hs2 (hg2.set _ (by omega)) (hwd.put _ (by omega)) hlt hlo (by simpa using hl2) (fun j hj hn => ?_)
  simp only
  rw [List.getElem?_set_ne (by omega)]
  exact ((hf2.2 j (fun q => hn (.inr q))).trans (hfb.2 j (fun q => hn (.inl q)))).trans (List.getElem?_append_left hj)
theorem declB_sg (hB : LibOK W0) {U : List Str} {N : Nat} (hU : U.length ≤ 30000000) (ihm : ModB W0 U N) {n : Int} {a b : Str} {g : Tr} (sc : List Sc) (x : Stt) (p : Path) (o2 : Own) (H : Hp) (r ro : Nat) (w : Wk) (hN : (Tr.node 74 n a b [g]).cnt ≤ N + 1) (ha : a.length ≤ 128) (h : SgW g) (hso : SOK U x.S) (hoo : HsOK U x.Out) (hsr : SR sc x.S) (hg : GvO H ro x.Out) (hu : InU U (Tr.node 74 n a b [g])) (hpl : p.length + (N + 1) ≤ 10000) (hL : w.L.length + (Tr.node 74 n a b [g]).cnt ≤ 60000000) (hX : w.X.length + U.length * (Tr.node 74 n a b [g]).cnt ≤ 60000000) (hw : WKb H r w) (hne : ro ≠ r) :
    SF Tryz.prog W0 36 [.ref r 0, scAV sc, (Tr.node 74 n a b [g]).av, .sl 1 (ints p) o2, .mref ro] H fun y H' => (∃ sc', y = scAV sc' ∧ SR sc' (declW (N + 1) x (Tr.node 74 n a b [g]) p w).2.S) ∧ GvO H' ro (declW (N + 1) x (Tr.node 74 n a b [g]) p w).2.Out ∧ WKb H' r (declW (N + 1) x (Tr.node 74 n a b [g]) p w).1 ∧ Fr (fun j => j = r ∨ j = ro) H H' := by
  have hU6 : U.length ≤ 60000000 := by omega
  rw [declW_sg]
  have hlt := hw.lt
  have hlo := hg.lt
  have hwB := hw.more [.cells [scAV sc]]
  have hxB : StB ⟨H.objs ++ [.cells [scAV sc]], H.hi⟩ H.objs.length ro x := ⟨⟨sc, by simp, hsr⟩, hg.more _ _⟩
  have hen := en60
  have hug := hu.kids.head
  simp only [Tr.cnt, Tr.cnts] at hN hL hX
  simp only [Tr.av]
  refine SF.cut (sf_start [10] 203 Tryz.func36 rfl rfl rfl (by decide) (by simp) ?_)
  repeat' first
    | refine aSq ?_ | refine aBl ?_ | refine tN ?_
    | (refine rg 0 ?_; refine aops_take 4 (mu := mu83) tab_ok (by simp; with_reducible rfl) ?_; refine dn ?_)
    | (refine ru ?_ (by simp (disch := omega) [small_if]; with_reducible rfl))
    | (refine awp_if rfl (fun hb => ?_) (fun hb => ?_) <;> (try simp at hb) <;> try (exfalso; omega))
    | fail
  refine awp_drawJ (id := 21) (fun X => X.objs[H.objs.length]? = some (.cells [scAV sc])) [(0, true), (1, true), (2, true), (3, true), (4, true), (5, true), (6, true), (7, true), (8, true), (9, true), (10, true), (11, true), (12, true), (13, true), (14, true), (15, true), (16, false), (17, false), (18, false), (19, false)] [19] tab_ok mixedT (by decide +kernel) (by simp) ?_
  refine adj_fixN (mu := mu0) rfl (by decide +kernel) rfl (by simp) (fun X hX => by simp [hX, Tr.avs]; rfl) (by simp; rfl) ?_
  refine adj_fixN (mu := mu0) rfl (by decide +kernel) rfl (by simp) (fun X hX => by simp [hX, Tr.avs]; rfl) (by simp; rfl) ?_
  refine adj_fixN (mu := mu0) rfl (by decide +kernel) rfl (by simp) (fun X hX => by simp [hX, Tr.avs]; rfl) (by simp; rfl) ?_
  refine adj_fixN (mu := mu0) rfl (by decide +kernel) rfl (by simp) (fun X hX => by simp [hX, Tr.avs]; rfl) (by simp; rfl) ?_
  refine adj_fixN (mu := mu0) rfl (by decide +kernel) rfl (by simp) (fun X hX => by simp [hX, Tr.avs]; rfl) (by simp; rfl) ?_
  refine adj_fixN (mu := mu0) rfl (by decide +kernel) rfl (by simp) (fun X hX => by simp (disch := omega) [small_if, small_ifI]; rfl) (by simp; rfl) ?_
  refine adj_fixN (mu := mu0) rfl (by decide +kernel) rfl (by simp) (fun X hX => by simp [hX, Tr.avs]; rfl) (by simp; rfl) ?_
  refine adj_fixN (mu := mu0) rfl (by decide +kernel) rfl (by simp) (fun X hX => by simp [hX, Tr.avs]; rfl) (by simp; rfl) ?_
  refine adj_fixN (mu := mu0) rfl (by decide +kernel) rfl (by simp) (fun X hX => by simp [hX, Tr.avs]; rfl) (by simp; rfl) ?_
  refine adj_fixN (mu := mu0) rfl (by decide +kernel) rfl (by simp) (fun X hX => by simp [hX, Tr.avs]; rfl) (by simp; rfl) ?_
  refine adj_fixN (mu := mu0) rfl (by decide +kernel) rfl (by simp) (fun X hX => by simp [hX, Tr.avs]; rfl) (by simp; rfl) ?_
  refine adj_fixN (mu := mu0) rfl (by decide +kernel) rfl (by simp) (fun X hX => by simp [hX, Tr.avs]; rfl) (by simp; rfl) ?_
  refine adj_fixN (mu := mu0) rfl (by decide +kernel) rfl (by simp) (fun X hX => by simp [hX, Tr.avs]; rfl) (by simp; rfl) ?_
  refine adj_fixN (mu := mu0) rfl (by decide +kernel) rfl (by simp) (fun X hX => by simp [hX, Tr.avs]; rfl) (by simp; rfl) ?_
  refine adj_fixN (mu := mu0) rfl (by decide +kernel) rfl (by simp) (fun X hX => by simp [hX, Tr.avs]; rfl) (by simp; rfl) ?_
  refine adj_fixN (mu := mu0) rfl (by decide +kernel) rfl (by simp) (fun X hX => by simp [hX, Tr.avs]; rfl) (by simp; rfl) ?_
  refine adj_fn rfl rfl rfl rfl rfl en63 (by simp; rfl) ?_
  refine SF.then (sf63 (by omega)) ?_
  refine ⟨.inr (by simp), ?_⟩
  refine adj_fn rfl rfl rfl rfl rfl en70 (by simp; rfl) ?_
  refine ((sigsB hB U hU N).1 g sc x.S (down p 0) .shut _ r w (by omega) h hso hsr hug (by rw [down_len]; omega) (by omega) hwB).mono ?_
  rintro x1 H1 ⟨hR, hwb, hfb⟩
  have hob1 : H1.objs[H.objs.length]? = some (.cells [scAV sc]) := (hfb.2 _ (by omega)).trans (by simp)
  have hg1 : GvO H1 ro x.Out := (hg.more _ _).fr hfb hne
  refine ⟨.inr hob1, ?_⟩
  refine adj_fn rfl rfl rfl rfl rfl en61 (by simp; rfl) ?_
  refine SF.then (sf61 hsr.ok hR) ?_
  refine ⟨.inr hob1, ?_⟩
  refine adj_stepN (mu := mu0) tab_ok rfl (by simp [hob1]; first | exact ⟨rfl, rfl⟩ | rfl) (.inl rfl) (by simp; rfl) ?_
  refine adj_nil ?_
  have hl2 : H.objs.length ≤ H1.objs.length := by have e1 := hfb.1; simp only [List.length_append, List.length_singleton] at e1; omega
  have h7 : ∀ o : AObj, (H1.objs.set H.objs.length o)[H.objs.length]? = some o := fun o => List.getElem?_set_self (obj_lt hob1)
  repeat' first
    | refine aSq ?_ | refine aRt ?_
    | (refine ru ?_ (by simp (disch := omega) [h7]; with_reducible rfl))
    | fail
  refine spb_end (x := ⟨bindB x.S (115 :: 58 :: a) p (sigW N x.S g (down p 0) w).2, x.Out⟩) (hsr.bind _ p hR) (hg1.set _ (by omega)) (hwb.put _ (by omega)) hlt hlo (by simpa using hl2) (fun j hj hn => ?_)
  simp only
  rw [List.getElem?_set_ne (by omega)]
  exact (hfb.2 j (fun q => hn (.inl q))).trans (List.getElem?_append_left hj)
theorem declB_ftor (hB : LibOK W0) {U : List Str} {N : Nat} (hU : U.length ≤ 30000000) (ihm : ModB W0 U N) {n : Int} {a b : Str} {g m : Tr} (sc : List Sc) (x : Stt) (p : Path) (o2 : Own) (H : Hp) (r ro : Nat) (w : Wk) (hN : (Tr.node 75 n a b [g, m]).cnt ≤ N + 1) (ha : a.length ≤ 128) (hb1 : b.length ≤ 128) (h : SgW g) (h2 : MdW m) (hso : SOK U x.S) (hoo : HsOK U x.Out) (hsr : SR sc x.S) (hg : GvO H ro x.Out) (hu : InU U (Tr.node 75 n a b [g, m])) (hpl : p.length + (N + 1) ≤ 10000) (hL : w.L.length + (Tr.node 75 n a b [g, m]).cnt ≤ 60000000) (hX : w.X.length + U.length * (Tr.node 75 n a b [g, m]).cnt ≤ 60000000) (hw : WKb H r w) (hne : ro ≠ r) :
    SF Tryz.prog W0 36 [.ref r 0, scAV sc, (Tr.node 75 n a b [g, m]).av, .sl 1 (ints p) o2, .mref ro] H fun y H' => (∃ sc', y = scAV sc' ∧ SR sc' (declW (N + 1) x (Tr.node 75 n a b [g, m]) p w).2.S) ∧ GvO H' ro (declW (N + 1) x (Tr.node 75 n a b [g, m]) p w).2.Out ∧ WKb H' r (declW (N + 1) x (Tr.node 75 n a b [g, m]) p w).1 ∧ Fr (fun j => j = r ∨ j = ro) H H' := by
  have hU6 : U.length ≤ 60000000 := by omega
  rw [declW_ftor]
  have hlt := hw.lt
  have hlo := hg.lt
  have hwB := hw.more [.cells [scAV sc]]
  have hxB : StB ⟨H.objs ++ [.cells [scAV sc]], H.hi⟩ H.objs.length ro x := ⟨⟨sc, by simp, hsr⟩, hg.more _ _⟩
  have hen := en60
  have hug := hu.kids.head
  have hum := hu.kids.tail.head
  have hm2 : U.length * m.cnt ≤ U.length * (1 + (g.cnt + (m.cnt + 0))) := mul_le _ (by omega)
  obtain ⟨l1, q1⟩ := (sigs_ok U N).1 x.S g (down p 0) w h hso hug (by rw [down_len]; omega)
  have l1x := l1.2
  simp only [Tr.cnt, Tr.cnts] at hN hL hX
  simp only [Tr.av]
  refine SF.cut (sf_start [10] 203 Tryz.func36 rfl rfl rfl (by decide) (by simp) ?_)
  repeat' first
    | refine aSq ?_ | refine aBl ?_ | refine tN ?_
    | (refine rg 0 ?_; refine aops_take 4 (mu := mu83) tab_ok (by simp; with_reducible rfl) ?_; refine dn ?_)
    | (refine dr 23 [(0, true), (1, true), (2, true), (3, true), (4, true), (5, true), (6, true), (7, true), (8, true), (9, false), (10, false), (11, false)] [10, 11] ?_; refine dh 1 ?_ (h := (by simp (disch := omega) [Tr.avs, small_if]; with_reducible rfl)); (first | (refine dh 1 ?_ (h := (by simp (disch := omega) [Tr.avs, small_if]; with_reducible rfl))) | (refine da 1 (fun _ => ?_) (h := (by simp (disch := omega) [Tr.avs, small_if]; with_reducible rfl)))); refine dh 3 ?_ (h := (by simp (disch := omega) [Tr.avs, small_if]; with_reducible rfl)); (first | (refine dh 1 ?_ (h := (by simp (disch := omega) [Tr.avs, small_if]; with_reducible rfl))) | (refine da 1 (fun _ => ?_) (h := (by simp (disch := omega) [Tr.avs, small_if]; with_reducible rfl)))); refine dh 1 ?_ (h := (by simp (disch := omega) [Tr.avs, small_if]; with_reducible rfl)); (first | (refine dh 1 ?_ (h := (by simp (disch := omega) [Tr.avs, small_if]; with_reducible rfl))) | (refine da 1 (fun _ => ?_) (h := (by simp (disch := omega) [Tr.avs, small_if]; with_reducible rfl)))); (first | (refine dh 1 ?_ (h := (by simp (disch := omega) [Tr.avs, small_if]; with_reducible rfl))) | (refine da 1 (fun _ => ?_) (h := (by simp (disch := omega) [Tr.avs, small_if]; with_reducible rfl)))); refine df en63 ?_; refine SF.then (sf63 (by omega)) ?_; refine ⟨.inr rfl, ?_⟩; refine df en70 ?_; refine ((sigsB hB U hU N).1 g sc x.S (down p 0) .shut _ r w (by omega) h hso hsr hug (by rw [down_len]; omega) (by omega) hwB).mono ?_; rintro x1 H1 ⟨hR, hwb, hfb⟩; have hob1 : H1.objs[H.objs.length]? = some (.cells [scAV sc]) := (hfb.2 _ (by omega)).trans (by simp); refine ⟨.inl rfl, ?_⟩; refine dx ?_ (h := (by simp (disch := omega) [Tr.avs, small_if]; with_reducible rfl)))
    | (refine ru ?_ (by simp (disch := omega) [Tr.avs, small_if]; with_reducible rfl))
    | (refine awp_if rfl (fun hb => ?_) (fun hb => ?_) <;> (try simp at hb) <;> try (exfalso; omega))
    | fail
  repeat' first
    | refine tN ?_
    | (refine dr 24 [(0, true), (1, true), (2, true), (3, true), (4, true), (5, true), (6, true), (7, true), (8, true), (10, true), (11, true), (12, true), (13, true), (14, true), (15, true), (16, true), (9, false), (17, false), (18, false), (19, false)] [18, 19] ?_; refine dh 1 ?_ (h := (by simp (disch := omega) [Tr.avs, small_if, hob1]; with_reducible rfl)); (first | (refine dh 1 ?_ (h := (by simp (disch := omega) [Tr.avs, small_if, hob1]; with_reducible rfl))) | (refine da 1 (fun _ => ?_) (h := (by simp (disch := omega) [Tr.avs, small_if, hob1]; with_reducible rfl)))); refine dh 3 ?_ (h := (by simp (disch := omega) [Tr.avs, small_if, hob1]; with_reducible rfl)); (first | (refine dh 1 ?_ (h := (by simp (disch := omega) [Tr.avs, small_if, hob1]; with_reducible rfl))) | (refine da 1 (fun _ => ?_) (h := (by simp (disch := omega) [Tr.avs, small_if, hob1]; with_reducible rfl)))); refine dh 1 ?_ (h := (by simp (disch := omega) [Tr.avs, small_if, hob1]; with_reducible rfl)); (first | (refine dh 1 ?_ (h := (by simp (disch := omega) [Tr.avs, small_if, hob1]; with_reducible rfl))) | (refine da 1 (fun _ => ?_) (h := (by simp (disch := omega) [Tr.avs, small_if, hob1]; with_reducible rfl)))); refine dh 4 ?_ (h := (by simp (disch := omega) [Tr.avs, small_if, hob1]; with_reducible rfl)); (first | (refine dh 1 ?_ (h := (by simp (disch := omega) [Tr.avs, small_if, hob1]; with_reducible rfl))) | (refine da 1 (fun _ => ?_) (h := (by simp (disch := omega) [Tr.avs, small_if, hob1]; with_reducible rfl)))); refine dh 1 ?_ (h := (by simp (disch := omega) [Tr.avs, small_if, hob1]; with_reducible rfl)); (first | (refine dh 1 ?_ (h := (by simp (disch := omega) [Tr.avs, small_if, hob1]; with_reducible rfl))) | (refine da 1 (fun _ => ?_) (h := (by simp (disch := omega) [Tr.avs, small_if, hob1]; with_reducible rfl)))); (first | (refine dh 1 ?_ (h := (by simp (disch := omega) [Tr.avs, small_if, hob1]; with_reducible rfl))) | (refine da 1 (fun _ => ?_) (h := (by simp (disch := omega) [Tr.avs, small_if, hob1]; with_reducible rfl)))); refine df en61 ?_; refine SF.then (sf61 hsr.ok hR) ?_; refine ⟨.inr rfl, ?_⟩; refine df en63 ?_; refine SF.then (sf63 (by omega)) ?_; refine ⟨.inr rfl, ?_⟩; refine df en66 ?_; refine (ihm m _ (bindB x.S (109 :: 58 :: b) p (sigW N x.S g (down p 0) w).2) (down p 1) .shut H1 r _ (by omega) h2 (bindB_ok hso (by simp) (by simp; omega) (by omega) q1) (hsr.bind _ p hR) hum (by rw [down_len]; omega) (by have := l1.1; omega) (by rw [l1x]; omega) hwb).mono ?_; rintro x2 H2 ⟨hR2, hwc, hfc⟩; have hob2 : H2.objs[H.objs.length]? = some (.cells [scAV sc]) := (hfc.2 _ (by omega)).trans hob1; refine ⟨.inl rfl, ?_⟩; refine dx ?_ (h := (by simp (disch := omega) [Tr.avs, small_if, hob1]; with_reducible rfl)))
    | fail
  repeat' first
    | refine aSq ?_
    | (refine dr 25 [(0, true), (1, true), (2, true), (3, true), (4, true), (5, true), (6, true), (7, true), (8, false), (9, false)] [9] ?_; refine da 8 (fun _ => ?_) (h := (by simp (disch := omega) [Tr.avs, small_if, hob2]; with_reducible rfl)); refine df en61 ?_; refine SF.then (sf61 hsr.ok hR2) ?_; refine ⟨.inr rfl, ?_⟩; refine dx ?_ (h := (by simp (disch := omega) [Tr.avs, small_if, hob2]; with_reducible rfl)))
    | fail
  have hl2 : H.objs.length ≤ H2.objs.length := by have e1 := hfb.1; have e2 := hfc.1; simp only [List.length_append, List.length_singleton] at e1 e2; omega
  have h7 : ∀ o : AObj, (H2.objs.set H.objs.length o)[H.objs.length]? = some o := fun o => List.getElem?_set_self (obj_lt hob2)
  repeat' first
    | refine aRt ?_
    | (refine ru ?_ (by simp (disch := omega) [h7]; with_reducible rfl))
    | fail
  refine spb_end (x := ⟨bindB x.S (102 :: 58 :: a) p (modW N (bindB x.S (109 :: 58 :: b) p (sigW N x.S g (down p 0) w).2) m (down p 1) (sigW N x.S g (down p 0) w).1).2, x.Out⟩) (hsr.bind _ p hR2) (((hg.more _ _).fr (hfb.trans hfc) hne).set _ (by omega)) (hwc.put _ (by omega)) hlt hlo (by simpa using hl2) (fun j hj hn => ?_)
  simp only
  rw [List.getElem?_set_ne (by omega)]
  exact ((hfc.2 j (fun q => hn (.inl q))).trans (hfb.2 j (fun q => hn (.inl q)))).trans (List.getElem?_append_left hj)
theorem declB_step (hB : LibOK W0) {U : List Str} {N : Nat} (hU : U.length ≤ 30000000) (ihm : ModB W0 U N) : DeclB W0 U (N + 1) := by
  intro t sc x p o2 H r ro w hN ht hso hoo hsr hg hu hpl hL hX hw hne
  cases ht with
  | val1 ha h => exact declB_val1 hB hU ihm sc x p o2 H r ro w hN ha h hso hoo hsr hg hu hpl hL hX hw hne
  | val2 ha h1 h => exact declB_val2 hB hU ihm sc x p o2 H r ro w hN ha h1 h hso hoo hsr hg hu hpl hL hX hw hne
  | typ ha h1 => exact declB_typ hB hU ihm sc x p o2 H r ro w hN ha h1 hso hoo hsr hg hu hpl hL hX hw hne
  | data h8 h => exact declB_data hB hU ihm sc x p o2 H r ro w hN h8 h hso hoo hsr hg hu hpl hL hX hw hne
  | str ha h => exact declB_str hB hU ihm sc x p o2 H r ro w hN ha h hso hoo hsr hg hu hpl hL hX hw hne
  | sg ha h1 => exact declB_sg hB hU ihm sc x p o2 H r ro w hN ha h1 hso hoo hsr hg hu hpl hL hX hw hne
  | ftor ha hb1 h1 h2 => exact declB_ftor hB hU ihm sc x p o2 H r ro w hN ha hb1 h1 h2 hso hoo hsr hg hu hpl hL hX hw hne
  | opn h => exact declB_opn hB hU ihm sc x p o2 H r ro w hN h hso hoo hsr hg hu hpl hL hX hw hne
  | inc h => exact declB_inc hB hU ihm sc x p o2 H r ro w hN h hso hoo hsr hg hu hpl hL hX hw hne
theorem modsB (hB : LibOK W0) (U : List Str) (hU : U.length ≤ 30000000) : ∀ N, ModB W0 U N ∧ DeclB W0 U N
  | 0 => ⟨fun t sc s p o2 H r w hN ht => by have := ht.pos; omega, fun t sc x p o2 H r ro w hN ht => by have := ht.pos; omega⟩
  | N + 1 => have ih := modsB hB U hU N; ⟨modB_step hB hU ih.1 ih.2, declB_step hB hU ih.1⟩
end Go.Av
