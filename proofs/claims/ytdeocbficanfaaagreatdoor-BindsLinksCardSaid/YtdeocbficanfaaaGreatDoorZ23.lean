/-
  Go read by value: lemmas (part 23): F5, F6.
-/
import Derived.Test.YtdeocbficanfaaaGreatDoorZ20
import Derived.Test.YtdeocbficanfaaaGreatDoorZ22
set_option linter.unusedVariables false
set_option linter.unusedSimpArgs false
set_option linter.unusedSectionVars false
namespace Go.Av
open Go.Proofs
variable {W0 : World}
set_option maxRecDepth 10000
set_option maxHeartbeats 4000000
def mu5 : TypeId → Bool := fun t => t == 95 || t == 62
@[simp] theorem mu5_eq (t : TypeId) : mu5 t = (t == 95 || t == 62) := rfl
theorem adj_fn {P : Program} {T : Tab} {ops : Array Oper} {late : List Nat} {J : Hp → Prop} {Q : Exit → St → Prop} {i : Nat} {p : List (Nat × Bool)} {st : St} {o : Oper} {c : Call} {f : FuncId} {d : Nat} {args : List AV} (hi : ops[i]? = some o) (ho : o.op = .call c) (hc : c.callee = .value (.func f)) (hg : o.guard = none) (hd : o.dst = some d)
    (hen : enters P f) (ha : c.args.toList.map st.eval = args)
    (h : SF P W0 f args st.H fun r H' => (late.contains i = true ∨ J H') ∧ ADrJ P W0 T ops late J Q p (St.put { st with H := H' } (some d) r)) : ADrJ P W0 T ops late J Q ((i, false) :: p) st := by
  refine ⟨o, hi, .inr ⟨rfl, aeff_call (by simp [wantA, hg]) ho hc (f := f) (caps := []) rfl hen ?_⟩⟩
  rw [List.append_nil, ha, hd]
  exact h
theorem adj_fixN {P : Program} {T : Tab} {mu : TypeId → Bool} {ops : Array Oper} {late : List Nat} {J : Hp → Prop} {Q : Exit → St → Prop} {i : Nat} {p : List (Nat × Bool)} {st st' : St} {o : Oper} {y : AV} (ho : ops[i]? = some o) (ha : aheadOf ops late i = true) (hf : fixOp o.op = true) (hJs : J st.H)
    (hx : ∀ H, J H → stepA T mu ops { st with H := H } o = some (H, y)) (hput : St.put st o.dst y = st') (h : ADrJ P W0 T ops late J Q p st') : ADrJ P W0 T ops late J Q ((i, true) :: p) st :=
  adj_fix ho ha hf hJs hx (by rw [hput]; exact h)
theorem adj_stepN {P : Program} {T : Tab} {mu : TypeId → Bool} {ops : Array Oper} {late : List Nat} {J : Hp → Prop} {Q : Exit → St → Prop} {i : Nat} {p : List (Nat × Bool)} {st st' : St} {o : Oper} {y : AV} {H' : Hp} (hT : TabOK P T) (ho : ops[i]? = some o) (hx : stepA T mu ops st o = some (H', y)) (hl : late.contains i = true ∨ J H')
    (hput : St.put { st with H := H' } o.dst y = st') (h : ADrJ P W0 T ops late J Q p st') : ADrJ P W0 T ops late J Q ((i, false) :: p) st :=
  adj_step hT ho hx hl (by rw [hput]; exact h)
theorem gs_end {H Hc : Hp} {r : Nat} {w : Wk} {y : List Hs} (hw : WKo Hc r w) (hr : r < H.objs.length) (hlen : H.objs.length ≤ Hc.objs.length) (hf : ∀ j, j < H.objs.length → j ≠ r → Hc.objs[j]? = H.objs[j]?) :
    ∃ m, H.hi.length ≤ m ∧ (H.objs.map (clnO H.objs.length m) = H.objs → (cln H.objs.length m (.sl 6 (Hs.avs y) .shut) = .sl 6 (Hs.avs y) .shut ∧ WKo ⟨(Hc.objs.take H.objs.length).map (clnO H.objs.length m), Hc.hi.take m⟩ r w ∧ Fr (· = r) H ⟨(Hc.objs.take H.objs.length).map (clnO H.objs.length m), Hc.hi.take m⟩)) :=
  ⟨max H.hi.length Hc.hi.length, Nat.le_max_left _ _, fun hold => ⟨by simp, wko_end hw hr (Nat.le_max_right _ _), fr_end hlen hf hold _⟩⟩
def SigS (W0 : World) (U : List Str) (N : Nat) : Prop := ∀ (t : Tr) (s : List Bd) (p : Path) (o1 o2 : Own) (H : Hp) (r : Nat) (w : Wk), t.cnt ≤ N → SgW t → SOK U s → InU U t → s.length + (U.length + 1) * t.cnt ≤ 60000000 → p.length + N ≤ 10000 → w.L.length + t.cnt ≤ 60000000 → WKo H r w →
  SF Tryz.prog W0 83 [.ref r 0, .sl 4 (bds s) o1, t.av, .sl 1 (ints p) o2] H fun x H' => x = .sl 6 (Hs.avs (sigW N s t p w).2) .shut ∧ WKo H' r (sigW N s t p w).1 ∧ Fr (· = r) H H'
def SpecS (W0 : World) (U : List Str) (N : Nat) : Prop := ∀ (t : Tr) (x : Stt) (p : Path) (o2 : Own) (H : Hp) (r rt : Nat) (w : Wk), t.cnt ≤ N → SpW t → SOK U x.S → HsOK U x.Out → InU U t → x.S.length + (U.length + 1) * t.cnt ≤ 60000000 → p.length + N ≤ 10000 → w.L.length + t.cnt ≤ 60000000 → WKo H r w → STo H rt x → rt ≠ r →
  SF Tryz.prog W0 119 [.ref r 0, .ref rt 0, t.av, .sl 1 (ints p) o2] H fun y H' => y = .tuple [] ∧ WKo H' r (specW N x t p w).1 ∧ STo H' rt (specW N x t p w).2 ∧ Fr (fun j => j = r ∨ j = rt) H H'
def specF (N : Nat) (p : Path) (i : Nat) (k : Tr) (x : Wk × Stt) : Wk × Stt := specW N x.2 k (down p i) x.1
theorem sigW_name (N : Nat) (s : List Bd) (n : Int) (a b : Str) (p : Path) (w : Wk) : sigW (N + 1) s (.node 51 n a b []) p w = refer w s p [115] a := by simp [sigW, Tr.kind, Tr.name]
theorem sigW_wh (N : Nat) (s : List Bd) (n : Int) (a b : Str) (g t : Tr) (p : Path) (w : Wk) : sigW (N + 1) s (.node 52 n a b [g, t]) p w = (typW N s t (down p 1) (sigW N s g (down p 0) w).1, (sigW N s g (down p 0) w).2) := by simp [sigW, Tr.kind, Tr.kid, Tr.kids]
theorem sigW_body (N : Nat) (s : List Bd) (n : Int) (a b : Str) (l : List Tr) (p : Path) (w : Wk) : sigW (N + 1) s (.node 50 n a b l) p w = ((foldK (specF N p) 0 l (w, ⟨s, []⟩)).1, (foldK (specF N p) 0 l (w, ⟨s, []⟩)).2.Out) := by simp [sigW, Tr.kind, Tr.kids]; exact ⟨rfl, rfl⟩
theorem mul_le (M : Nat) {a b : Nat} (h : a ≤ b) : M * a ≤ M * b := Nat.mul_le_mul_left _ h
theorem sigS_step {U : List Str} {N : Nat} (hU : U.length ≤ 30000000) (ihg : SigS W0 U N) (ihp : SpecS W0 U N) : SigS W0 U (N + 1) := by
  intro t s p o1 o2 H r w hN ht hso hu hsl hpl hL hw
  have hU6 : U.length ≤ 60000000 := by omega
  have hlt := hw.lt
  cases ht with
  | @name n a b h =>
    rw [sigW_name]
    simp only [Tr.cnt, Tr.cnts] at hN hsl hL
    simp only [Tr.av]
    refine SF.cut (sf_start [8] 82 Tryz.func83 rfl rfl rfl (by decide) (by simp) ?_)
    repeat' first
      | refine aSq ?_ | refine aRt ?_ | refine tN ?_ | refine tR ?_
      | (refine rg 2 ?_; refine tk 7 ?_; refine fc en84 ?_; refine (sf84 hU6 hso (by omega) (by omega) (by simp) h hw (by omega)).mono ?_; rintro x1 H1 ⟨rfl, hwb, hfb⟩; refine tk 1 ?_; refine dn ?_)
      | refine ru ?_
      | (refine awp_if rfl (fun hb => ?_) (fun hb => ?_) <;> (try simp at hb) <;> try (exfalso; omega))
      | fail
    exact gs_end hwb hlt (by simp [hfb.1]) (fun j _ hne => hfb.2 j hne)
  | @wh n a b g t2 h1 h2 =>
    rw [sigW_wh]
    have hug := hu.kids.head
    obtain ⟨l1, q1⟩ := (sigs_ok U N).1 s g (down p 0) w h1 hso hug (by rw [down_len]; omega)
    have hm : (U.length + 1) * g.cnt ≤ (U.length + 1) * (1 + (g.cnt + (t2.cnt + 0))) := mul_le _ (by omega)
    have hm2 : 1 + (g.cnt + (t2.cnt + 0)) ≤ (U.length + 1) * (1 + (g.cnt + (t2.cnt + 0))) := Nat.le_mul_of_pos_left _ (by omega)
    simp only [Tr.cnt, Tr.cnts] at hN hsl hL
    simp only [Tr.av]
    refine SF.cut (sf_start [8] 82 Tryz.func83 rfl rfl rfl (by decide) (by simp) ?_)
    repeat' first
      | refine aSq ?_ | refine aRt ?_ | refine aSk ?_ | refine tN ?_ | refine tR ?_
      | (refine dr 4 [(0, true), (1, true), (2, true), (3, true), (4, true), (5, true), (6, true), (7, true), (8, true), (9, false), (10, false), (11, false)] [10, 11] ?_; refine dh 5 ?_ (h := (by simp (disch := omega) [Tr.avs]; with_reducible rfl)); (first | (refine dh 1 ?_ (h := (by simp (disch := omega) [Tr.avs]; with_reducible rfl))) | (refine da 1 (fun _ => ?_) (h := (by simp (disch := omega) [Tr.avs]; with_reducible rfl)))); refine dh 1 ?_ (h := (by simp (disch := omega) [Tr.avs]; with_reducible rfl)); (first | (refine dh 1 ?_ (h := (by simp (disch := omega) [Tr.avs]; with_reducible rfl))) | (refine da 1 (fun _ => ?_) (h := (by simp (disch := omega) [Tr.avs]; with_reducible rfl)))); refine dh 1 ?_ (h := (by simp (disch := omega) [Tr.avs]; with_reducible rfl)); refine df en77 ?_; refine SF.then (sf77 (by omega)) ?_; refine ⟨.inr rfl, ?_⟩; refine df en83 ?_; refine (ihg g s (down p 0) o1 .shut H r w (by omega) h1 hso hug (by omega) (by rw [down_len]; omega) (by omega) hw).mono ?_; rintro x1 H1 ⟨rfl, hwb, hfb⟩; refine ⟨.inl rfl, ?_⟩; refine dx ?_ (h := (by simp (disch := omega) [Tr.avs]; with_reducible rfl)))
      | (refine dr 5 [(0, true), (1, true), (2, true), (3, true), (4, true), (5, true), (6, true), (7, true), (8, true), (9, false), (10, false)] [10] ?_; refine dh 5 ?_ (h := (by simp (disch := omega) [Tr.avs]; with_reducible rfl)); (first | (refine dh 1 ?_ (h := (by simp (disch := omega) [Tr.avs]; with_reducible rfl))) | (refine da 1 (fun _ => ?_) (h := (by simp (disch := omega) [Tr.avs]; with_reducible rfl)))); refine dh 1 ?_ (h := (by simp (disch := omega) [Tr.avs]; with_reducible rfl)); (first | (refine dh 1 ?_ (h := (by simp (disch := omega) [Tr.avs]; with_reducible rfl))) | (refine da 1 (fun _ => ?_) (h := (by simp (disch := omega) [Tr.avs]; with_reducible rfl)))); refine dh 1 ?_ (h := (by simp (disch := omega) [Tr.avs]; with_reducible rfl)); refine df en77 ?_; refine SF.then (sf77 (by omega)) ?_; refine ⟨.inr rfl, ?_⟩; refine df en76 ?_; refine (sf76 hU6 N t2 s (down p 1) o1 .shut H1 r _ (by omega) h2 hso (by omega) (by rw [down_len]; omega) (by have := l1.1; omega) hwb).mono ?_; rintro x2 H2 ⟨rfl, hwc, hfc⟩; refine ⟨.inl rfl, ?_⟩; refine adr_nil ?_)
      | (refine ru ?_ (by simp (disch := omega) [Tr.avs]; with_reducible rfl))
      | (refine awp_if rfl (fun hb => ?_) (fun hb => ?_) <;> (try simp at hb) <;> try (exfalso; omega))
      | fail
    have hf := hfb.trans hfc
    exact gs_end hwc hlt (by simp [hf.1]) (fun j _ hne => hf.2 j hne)
  | @body n a b l hl =>
    rw [sigW_body]
    have hll := pos_len fun t ht => (hl t ht).pos
    have hul := hu.kids
    simp only [Tr.cnt] at hN hsl hL
    have hme : (U.length + 1) * (1 + Tr.cnts l) = (U.length + 1) + (U.length + 1) * Tr.cnts l := by rw [Nat.mul_add, Nat.mul_one]
    simp only [Tr.av]
    obtain ⟨fin, hfin⟩ : ∃ fin, foldK (specF N p) 0 l (w, ⟨s, []⟩) = fin := ⟨_, rfl⟩
    rw [hfin]
    refine SF.cut (sf_start [8] 82 Tryz.func83 rfl rfl rfl (by decide) (by simp) ?_)
    repeat' first
      | refine aSq ?_ | refine aSk ?_ | refine aBl ?_ | refine tN ?_
      | (refine rg 7 ?_; refine aops_take 4 (mu := mu5) tab_ok (by simp; with_reducible rfl) ?_; refine dn ?_)
      | refine ru ?_
      | (refine awp_if rfl (fun hb => ?_) (fun hb => ?_) <;> (try simp at hb) <;> try (exfalso; omega))
      | fail
    refine awp_objLe H.objs.length [.sl 4 (bds s) .shut, .sl 6 (Hs.avs []) .shut] (get_concat _ _) (by simp [Hs.avs]) ?_
    refine awp_loop_inv (fun q st => ∃ (i : Nat) (cur : Wk × Stt) (Hc : Hp), q = l.length - i ∧ i ≤ l.length ∧ foldK (specF N p) i (l.drop i) cur = fin ∧ LenOK w cur.1 (Tr.cnts (l.take i)) ∧ SttOK U ⟨s, []⟩ cur.2 (Tr.cnts (l.take i)) ∧ WKo Hc r cur.1 ∧ STo Hc H.objs.length cur.2 ∧
      Hc.objs.length = H.objs.length + 1 ∧ (∀ j, j < H.objs.length → j ≠ r → Hc.objs[j]? = H.objs[j]?) ∧
      Sub st ⟨82, [(0, .ref r 0), (2, .ptr [.int .i64 50, .int .i64 n, .str a, .str b, .sl 1 (Tr.avs l) .shut]), (3, .sl 1 (ints p) o2), (10, .ref H.objs.length 0), (11, .int .i64 i)], Hc⟩) l.length
      ⟨0, (w, ⟨s, []⟩), ⟨(H.objs ++ [AObj.cells [.sl 4 (bds s) o1, .slnil]]).set H.objs.length (sttO ⟨s, []⟩), H.hi⟩, by simp, by simp, hfin, .refl _ _, .refl hso .nil _, hw.keep (by simp only; rw [set_concat, List.getElem?_append_left hlt]) rfl, by simp [STo], by simp, fun j hj _ => by simp only; rw [set_concat, List.getElem?_append_left hj], sb⟩ ?_
    clear hfin hw
    rintro q st ⟨i, cur, Hc, rfl, hi, hfo, hlo, hst, hwc, hxc, hlc, hfc, hs2⟩
    refine awp_sub hs2 ?_
    clear hs2 st
    have hxc' : Hc.objs[H.objs.length]? = some (.cells [.sl 4 (bds cur.2.S) .shut, .sl 6 (Hs.avs cur.2.Out) .shut]) := hxc
    repeat' first
      | refine aSq ?_ | refine aRt ?_ | refine aSk ?_ | refine aEx ?_ | refine aBl ?_ | refine tN ?_
      | (refine dr 11 [(0, true), (1, true), (2, true), (3, true), (4, true), (5, true), (6, true), (7, true), (8, true), (9, true), (10, true), (11, false), (12, false)] [12] ?_; refine dh 5 ?_; (first | (refine dh 1 ?_) | (refine da 1 fun _ => ?_)); refine dh 2 ?_; (first | (refine dh 1 ?_) | (refine da 1 fun _ => ?_)); refine dh 2 ?_; refine df en77 ?_; refine SF.then (sf77 (by omega)) ?_; refine ⟨.inr rfl, ?_⟩; refine df en119 ?_; (have hlt : i < l.length := by assumption); (have q1 := Tr.cnts_take l i hlt); (have q2 := Tr.cnts_take_le l (i + 1)); (have q3 := Tr.cnts_le l i hlt); (have m1 : (U.length + 1) * Tr.cnts (l.take (i + 1)) = (U.length + 1) * Tr.cnts (l.take i) + (U.length + 1) * l[i].cnt := by rw [q1, Nat.mul_add]); (have m2 := mul_le (U.length + 1) q2); (have h0 := hst.len); (have h1 := hlo.1); (have q4 := (sigs_ok U N).2 cur.2 l[i] (down p i) cur.1 (hl _ (List.getElem_mem hlt)) hst.s hst.o (hul.mem _ (List.getElem_mem hlt)) (by rw [down_len]; omega)); refine (ihp l[i] cur.2 (down p i) .shut Hc r H.objs.length cur.1 (by omega) (hl _ (List.getElem_mem hlt)) hst.s hst.o (hul.mem _ (List.getElem_mem hlt)) (by simp only at h0; omega) (by rw [down_len]; omega) (by omega) hwc hxc (by omega)).mono ?_; rintro x1 H2 ⟨rfl, hwb, hxb, hfb⟩; refine ⟨.inl rfl, ?_⟩; refine adr_nil ?_)
      | (refine awp_run (id := 12) (mu := mu0) tab_ok (by simp [hxc']; with_reducible rfl) ?_)
      | refine ru ?_
      | (refine awp_if rfl (fun hb => ?_) (fun hb => ?_) <;> (try simp at hb) <;> try (exfalso; omega))
      | fail
    · rw [foldK_drop _ hlt] at hfo
      exact ⟨l.length - (i + 1), by omega, i + 1, _, H2, rfl, by omega, hfo, by rw [q1]; exact hlo.trans q4.1, by rw [q1]; exact hst.trans q4.2, hwb, hxb, by rw [hfb.1, hlc], fun j hj hne => (hfb.2 j (by omega)).trans (hfc j hj hne), sb⟩
    · rw [foldK_end _ (by omega)] at hfo
      subst hfo
      exact gs_end hwc (by assumption) (show H.objs.length ≤ Hc.objs.length by omega) hfc
theorem specW_val (N : Nat) (x : Stt) (n : Int) (a b : Str) (t : Tr) (p : Path) (w : Wk) : specW (N + 1) x (.node 60 n a b [t]) p w = (typW N x.S t (down p 0) w, x.put (118 :: 58 :: a) p []) := by simp [specW, Tr.kind, Tr.kid, Tr.kids, Tr.name]
theorem specW_typ0 (N : Nat) (x : Stt) (n : Int) (a b : Str) (p : Path) (w : Wk) : specW (N + 1) x (.node 61 n a b []) p w = (w, x.put (116 :: 58 :: a) p []) := by simp [specW, Tr.kind, Tr.kids, Tr.name, foldK]
theorem specW_typ1 (N : Nat) (x : Stt) (n : Int) (a b : Str) (t : Tr) (p : Path) (w : Wk) : specW (N + 1) x (.node 61 n a b [t]) p w = (typW N x.S t (down p 0) w, x.put (116 :: 58 :: a) p []) := by simp [specW, Tr.kind, Tr.kids, Tr.name, foldK]
theorem specW_data (N : Nat) (x : Stt) (n : Int) (a b : Str) (l : List Tr) (p : Path) (w : Wk) : specW (N + 1) x (.node 62 n a b l) p w = dataW (N + 1) x (.node 62 n a b l) p w := by simp [specW, Tr.kind]
theorem specW_str (N : Nat) (x : Stt) (n : Int) (a b : Str) (g : Tr) (p : Path) (w : Wk) : specW (N + 1) x (.node 63 n a b [g]) p w = ((sigW N x.S g (down p 0) w).1, x.put (109 :: 58 :: a) p (sigW N x.S g (down p 0) w).2) := by simp [specW, Tr.kind, Tr.kid, Tr.kids, Tr.name]
theorem specW_inc (N : Nat) (x : Stt) (n : Int) (a b : Str) (g : Tr) (p : Path) (w : Wk) : specW (N + 1) x (.node 64 n a b [g]) p w = ((sigW N x.S g (down p 0) w).1, ⟨bringB x.S (sigW N x.S g (down p 0) w).2 p, putAll x.Out (sigW N x.S g (down p 0) w).2 p⟩) := by simp [specW, Tr.kind, Tr.kid, Tr.kids]
theorem specW_share (N : Nat) (x : Stt) (n : Int) (a b : Str) (p : Path) (w : Wk) : specW (N + 1) x (.node 65 n a b []) p w = (w, x) := by simp [specW, Tr.kind]
theorem specS_step {U : List Str} {N : Nat} (hU : U.length ≤ 30000000) (ihg : SigS W0 U N) : SpecS W0 U (N + 1) := by
  intro t x p o2 H r rt w hN ht hso hoo hu hsl hpl hL hw hx hne
  have hU6 : U.length ≤ 60000000 := by omega
  have hobx : H.objs[rt]? = some (.cells [.sl 4 (bds x.S) .shut, .sl 6 (Hs.avs x.Out) .shut]) := hx
  have hol := hoo.len
  have hc1 : t.cnt ≤ (U.length + 1) * t.cnt := Nat.le_mul_of_pos_left _ (by omega)
  have hFr : ∀ {H1 : Hp} (o : AObj), Fr (· = r) H H1 → Fr (fun j => j = r ∨ j = rt) H { H1 with objs := H1.objs.set rt o } := fun o hf => (hf.mono fun j h => .inl h).trans (Fr.set (.inr rfl))
  cases ht with
  | @val n a b t ha h =>
    rw [specW_val]
    simp only [Tr.cnt, Tr.cnts] at hN hsl hL hc1
    simp only [Tr.av]
    refine sf_start [] 134 Tryz.func119 rfl rfl rfl (by decide) (by simp) ?_
    repeat' first
      | refine aSq ?_ | refine aBl ?_ | refine tN ?_
      | (refine dr 2 [(0, true), (1, true), (2, true), (3, true), (4, true), (5, true), (6, true), (7, true), (8, true), (9, true), (10, true), (11, true), (12, false), (13, false)] [13] ?_; refine dh 4 ?_ (h := (by simp (disch := omega) [Tr.avs, hobx, small_if]; with_reducible rfl)); (first | (refine dh 1 ?_ (h := (by simp (disch := omega) [Tr.avs, hobx, small_if]; with_reducible rfl))) | (refine da 1 (fun _ => ?_) (h := (by simp (disch := omega) [Tr.avs, hobx, small_if]; with_reducible rfl)))); refine dh 3 ?_ (h := (by simp (disch := omega) [Tr.avs, hobx, small_if]; with_reducible rfl)); (first | (refine dh 1 ?_ (h := (by simp (disch := omega) [Tr.avs, hobx, small_if]; with_reducible rfl))) | (refine da 1 (fun _ => ?_) (h := (by simp (disch := omega) [Tr.avs, hobx, small_if]; with_reducible rfl)))); refine dh 1 ?_ (h := (by simp (disch := omega) [Tr.avs, hobx, small_if]; with_reducible rfl)); (first | (refine dh 1 ?_ (h := (by simp (disch := omega) [Tr.avs, hobx, small_if]; with_reducible rfl))) | (refine da 1 (fun _ => ?_) (h := (by simp (disch := omega) [Tr.avs, hobx, small_if]; with_reducible rfl)))); refine dh 1 ?_ (h := (by simp (disch := omega) [Tr.avs, hobx, small_if]; with_reducible rfl)); refine df en77 ?_; refine SF.then (sf77 (by omega)) ?_; refine ⟨.inr rfl, ?_⟩; refine df en76 ?_; refine (sf76 hU6 N t x.S (down p 0) .shut .shut H r w (by omega) h hso (by omega) (by rw [down_len]; omega) (by omega) hw).mono ?_; rintro x1 H1 ⟨rfl, hwb, hfb⟩; refine ⟨.inl rfl, ?_⟩; refine adr_nil ?_)
      | (refine rg 3 ?_; refine tk 7 ?_ (by simp (disch := omega) [Tr.avs, hobx, small_if]; with_reducible rfl); refine fc en79 ?_; refine (sf79n (hx.fr hfb hne) (by omega) (by omega)).mono ?_; rintro x1 H2 ⟨rfl, rfl⟩; refine dn ?_)
      | (refine ru ?_ (by simp (disch := omega) [Tr.avs, hobx, small_if]; with_reducible rfl))
      | (refine awp_if rfl (fun hb => ?_) (fun hb => ?_) <;> (try simp at hb) <;> try (exfalso; omega))
      | refine inN ?_
    exact ⟨rfl, hwb.set (Ne.symm hne), STo.set _ (by rw [hfb.1]; exact obj_lt hx), hFr _ hfb⟩
  | @typ0 n a b ha =>
    rw [specW_typ0]
    simp only [Tr.cnt, Tr.cnts] at hN hsl hL hc1
    simp only [Tr.av]
    refine sf_start [] 134 Tryz.func119 rfl rfl rfl (by decide) (by simp) ?_
    repeat' first
      | refine aSq ?_ | refine aSk ?_ | refine aBl ?_ | refine tN ?_
      | (refine rg 7 ?_; refine tk 7 ?_ (by simp (disch := omega) [Tr.avs, hobx, small_if]; with_reducible rfl); refine fc en79 ?_; refine (sf79n hx (by omega) (by omega)).mono ?_; rintro x1 H2 ⟨rfl, rfl⟩; refine dn ?_)
      | (refine ru ?_ (by simp (disch := omega) [Tr.avs, hobx, small_if]; with_reducible rfl))
      | (refine awp_if rfl (fun hb => ?_) (fun hb => ?_) <;> (try simp at hb) <;> try (exfalso; omega))
      | refine inN ?_
    exact ⟨rfl, hw.set (Ne.symm hne), STo.set _ (obj_lt hx), hFr _ (Fr.refl H)⟩
  | @typ1 n a b t ha h =>
    rw [specW_typ1]
    simp only [Tr.cnt, Tr.cnts] at hN hsl hL hc1
    simp only [Tr.av]
    refine sf_start [] 134 Tryz.func119 rfl rfl rfl (by decide) (by simp) ?_
    repeat' first
      | refine aSq ?_ | refine aBl ?_ | refine tN ?_
      | (refine dr 6 [(0, true), (1, true), (2, true), (3, true), (4, true), (5, true), (6, true), (7, true), (8, true), (9, true), (10, true), (11, true), (12, false), (13, false)] [13] ?_; refine dh 4 ?_ (h := (by simp (disch := omega) [Tr.avs, hobx, small_if]; with_reducible rfl)); (first | (refine dh 1 ?_ (h := (by simp (disch := omega) [Tr.avs, hobx, small_if]; with_reducible rfl))) | (refine da 1 (fun _ => ?_) (h := (by simp (disch := omega) [Tr.avs, hobx, small_if]; with_reducible rfl)))); refine dh 3 ?_ (h := (by simp (disch := omega) [Tr.avs, hobx, small_if]; with_reducible rfl)); (first | (refine dh 1 ?_ (h := (by simp (disch := omega) [Tr.avs, hobx, small_if]; with_reducible rfl))) | (refine da 1 (fun _ => ?_) (h := (by simp (disch := omega) [Tr.avs, hobx, small_if]; with_reducible rfl)))); refine dh 1 ?_ (h := (by simp (disch := omega) [Tr.avs, hobx, small_if]; with_reducible rfl)); (first | (refine dh 1 ?_ (h := (by simp (disch := omega) [Tr.avs, hobx, small_if]; with_reducible rfl))) | (refine da 1 (fun _ => ?_) (h := (by simp (disch := omega) [Tr.avs, hobx, small_if]; with_reducible rfl)))); refine dh 1 ?_ (h := (by simp (disch := omega) [Tr.avs, hobx, small_if]; with_reducible rfl)); refine df en77 ?_; refine SF.then (sf77 (by omega)) ?_; refine ⟨.inr rfl, ?_⟩; refine df en76 ?_; refine (sf76 hU6 N t x.S (down p 0) .shut .shut H r w (by omega) h hso (by omega) (by rw [down_len]; omega) (by omega) hw).mono ?_; rintro x1 H1 ⟨rfl, hwb, hfb⟩; refine ⟨.inl rfl, ?_⟩; refine adr_nil ?_)
      | (refine rg 7 ?_; refine tk 7 ?_ (by simp (disch := omega) [Tr.avs, hobx, small_if]; with_reducible rfl); refine fc en79 ?_; refine (sf79n (hx.fr hfb hne) (by omega) (by omega)).mono ?_; rintro x1 H2 ⟨rfl, rfl⟩; refine dn ?_)
      | (refine ru ?_ (by simp (disch := omega) [Tr.avs, hobx, small_if]; with_reducible rfl))
      | (refine awp_if rfl (fun hb => ?_) (fun hb => ?_) <;> (try simp at hb) <;> try (exfalso; omega))
      | refine inN ?_
    exact ⟨rfl, hwb.set (Ne.symm hne), STo.set _ (by rw [hfb.1]; exact obj_lt hx), hFr _ hfb⟩
  | @data n a b l h8 h =>
    rw [specW_data]
    have h80 := sf80 (W0 := W0) (o2 := o2) (p := p) hU6 hN h h8 hso (by omega) (by omega) (by omega) (by omega) hw hx hne
    simp only [Tr.av] at h80 ⊢
    refine sf_start [] 134 Tryz.func119 rfl rfl rfl (by decide) (by simp) ?_
    repeat' first
      | refine aSq ?_ | refine aBl ?_ | refine tN ?_
      | (refine rg 9 ?_; refine tk 4 ?_; refine fc en80 ?_; refine h80.mono ?_; rintro x1 H1 ⟨rfl, hwb, hxb, hfb⟩; refine dn ?_)
      | refine ru ?_
      | (refine awp_if rfl (fun hb => ?_) (fun hb => ?_) <;> (try simp at hb) <;> try (exfalso; omega))
      | refine inN ?_
    exact ⟨rfl, hwb, hxb, hfb⟩
  | @str n a b g ha h =>
    rw [specW_str]
    have hug := hu.kids.head
    have hm : (U.length + 1) * g.cnt ≤ (U.length + 1) * (1 + (g.cnt + 0)) := mul_le _ (by omega)
    simp only [Tr.cnt, Tr.cnts] at hN hsl hL hc1
    simp only [Tr.av]
    refine sf_start [] 134 Tryz.func119 rfl rfl rfl (by decide) (by simp) ?_
    repeat' first
      | refine aSq ?_ | refine aBl ?_ | refine tN ?_
      | (refine dr 11 [(0, true), (1, true), (2, true), (3, true), (4, true), (5, true), (6, true), (7, true), (8, true), (9, true), (10, true), (11, true), (12, true), (13, true), (14, true), (15, true), (16, true), (17, true), (18, true), (19, false), (20, false), (21, false)] [20, 21] ?_; refine dh 4 ?_ (h := (by simp (disch := omega) [Tr.avs, hobx, small_if]; with_reducible rfl)); (first | (refine dh 1 ?_ (h := (by simp (disch := omega) [Tr.avs, hobx, small_if]; with_reducible rfl))) | (refine da 1 (fun _ => ?_) (h := (by simp (disch := omega) [Tr.avs, hobx, small_if]; with_reducible rfl)))); refine dh 6 ?_ (h := (by simp (disch := omega) [Tr.avs, hobx, small_if]; with_reducible rfl)); (first | (refine dh 1 ?_ (h := (by simp (disch := omega) [Tr.avs, hobx, small_if]; with_reducible rfl))) | (refine da 1 (fun _ => ?_) (h := (by simp (disch := omega) [Tr.avs, hobx, small_if]; with_reducible rfl)))); refine dh 3 ?_ (h := (by simp (disch := omega) [Tr.avs, hobx, small_if]; with_reducible rfl)); (first | (refine dh 1 ?_ (h := (by simp (disch := omega) [Tr.avs, hobx, small_if]; with_reducible rfl))) | (refine da 1 (fun _ => ?_) (h := (by simp (disch := omega) [Tr.avs, hobx, small_if]; with_reducible rfl)))); refine dh 1 ?_ (h := (by simp (disch := omega) [Tr.avs, hobx, small_if]; with_reducible rfl)); (first | (refine dh 1 ?_ (h := (by simp (disch := omega) [Tr.avs, hobx, small_if]; with_reducible rfl))) | (refine da 1 (fun _ => ?_) (h := (by simp (disch := omega) [Tr.avs, hobx, small_if]; with_reducible rfl)))); refine dh 1 ?_ (h := (by simp (disch := omega) [Tr.avs, hobx, small_if]; with_reducible rfl)); refine df en77 ?_; refine SF.then (sf77 (by omega)) ?_; refine ⟨.inr rfl, ?_⟩; refine df en83 ?_; refine (ihg g x.S (down p 0) .shut .shut H r w (by omega) h hso hug (by omega) (by rw [down_len]; omega) (by omega) hw).mono ?_; rintro x1 H1 ⟨rfl, hwb, hfb⟩; refine ⟨.inl rfl, ?_⟩; refine df en79 ?_; refine (sf79 (hx.fr hfb hne) (by omega) (by omega)).mono ?_; rintro x1 H2 ⟨rfl, rfl⟩; refine ⟨.inl rfl, ?_⟩; refine adr_nil ?_)
      | (refine ru ?_ (by simp (disch := omega) [Tr.avs, hobx, small_if]; with_reducible rfl))
      | (refine awp_if rfl (fun hb => ?_) (fun hb => ?_) <;> (try simp at hb) <;> try (exfalso; omega))
      | refine inN ?_
    exact ⟨rfl, hwb.set (Ne.symm hne), STo.set _ (by rw [hfb.1]; exact obj_lt hx), hFr _ hfb⟩
  | @inc n a b g h =>
    rw [specW_inc]
    have hug := hu.kids.head
    have hm : (U.length + 1) * g.cnt ≤ (U.length + 1) * (1 + (g.cnt + 0)) := mul_le _ (by omega)
    have hm2 : (U.length + 1) * (1 + (g.cnt + 0)) = (U.length + 1) + (U.length + 1) * g.cnt := by rw [Nat.mul_add, Nat.mul_one]; rfl
    have hil := ((sigs_ok U N).1 x.S g (down p 0) w h hso hug (by rw [down_len]; omega)).2.len
    simp only [Tr.cnt, Tr.cnts] at hN hsl hL hc1
    simp only [Tr.av]
    refine sf_start [] 134 Tryz.func119 rfl rfl rfl (by decide) (by simp) ?_
    repeat' first
      | refine aSq ?_ | refine aBl ?_ | refine tN ?_
      | (refine dr 13 [(0, true), (1, true), (2, true), (3, true), (4, true), (5, true), (6, true), (7, true), (8, true), (9, true), (10, true), (11, true), (12, false), (13, false), (14, false)] [13, 14] ?_; refine dh 4 ?_ (h := (by simp (disch := omega) [Tr.avs, hobx, small_if]; with_reducible rfl)); (first | (refine dh 1 ?_ (h := (by simp (disch := omega) [Tr.avs, hobx, small_if]; with_reducible rfl))) | (refine da 1 (fun _ => ?_) (h := (by simp (disch := omega) [Tr.avs, hobx, small_if]; with_reducible rfl)))); refine dh 3 ?_ (h := (by simp (disch := omega) [Tr.avs, hobx, small_if]; with_reducible rfl)); (first | (refine dh 1 ?_ (h := (by simp (disch := omega) [Tr.avs, hobx, small_if]; with_reducible rfl))) | (refine da 1 (fun _ => ?_) (h := (by simp (disch := omega) [Tr.avs, hobx, small_if]; with_reducible rfl)))); refine dh 1 ?_ (h := (by simp (disch := omega) [Tr.avs, hobx, small_if]; with_reducible rfl)); (first | (refine dh 1 ?_ (h := (by simp (disch := omega) [Tr.avs, hobx, small_if]; with_reducible rfl))) | (refine da 1 (fun _ => ?_) (h := (by simp (disch := omega) [Tr.avs, hobx, small_if]; with_reducible rfl)))); refine dh 1 ?_ (h := (by simp (disch := omega) [Tr.avs, hobx, small_if]; with_reducible rfl)); refine df en77 ?_; refine SF.then (sf77 (by omega)) ?_; refine ⟨.inr rfl, ?_⟩; refine df en83 ?_; refine (ihg g x.S (down p 0) .shut .shut H r w (by omega) h hso hug (by omega) (by rw [down_len]; omega) (by omega) hw).mono ?_; rintro x1 H1 ⟨rfl, hwb, hfb⟩; refine ⟨.inl rfl, ?_⟩; refine dx ?_ (h := (by simp (disch := omega) [Tr.avs, hobx, small_if]; with_reducible rfl)))
      | (refine rg 14 ?_; have hob1 : H1.objs[rt]? = some (.cells [.sl 4 (bds x.S) .shut, .sl 6 (Hs.avs x.Out) .shut]) := hx.fr hfb hne; (have hset : ∀ o : AObj, (H1.objs.set rt o)[rt]? = some o := fun o => by simp [obj_lt hob1]); refine tk 7 ?_ (by simp [hob1]; with_reducible rfl); refine fc en85 ?_; refine SF.then (sf85 (by omega)) ?_; refine tk 3 ?_ (by simp [hob1]; with_reducible rfl); refine dn ?_)
      | (refine rg 15 ?_; refine tk 7 ?_ (by simp [hset]; with_reducible rfl); refine fc en86 ?_; refine SF.then (sf86 (by omega)) ?_; refine tk 3 ?_ (by simp [hset, set_twice]; with_reducible rfl); refine dn ?_)
      | (refine ru ?_ (by simp (disch := omega) [Tr.avs, hobx, small_if]; with_reducible rfl))
      | (refine awp_if rfl (fun hb => ?_) (fun hb => ?_) <;> (try simp at hb) <;> try (exfalso; omega))
      | refine inN ?_
    exact ⟨rfl, hwb.set (Ne.symm hne), STo.set ⟨bringB x.S (sigW N x.S g (down p 0) w).2 p, putAll x.Out (sigW N x.S g (down p 0) w).2 p⟩ (by rw [hfb.1]; exact obj_lt hx), hFr _ hfb⟩
  | @share n a b =>
    rw [specW_share]
    simp only [Tr.av]
    refine sf_start [] 134 Tryz.func119 rfl rfl rfl (by decide) (by simp) ?_
    repeat' first
      | refine aSq ?_ | refine aSk ?_ | refine aBl ?_ | refine tN ?_
      | refine ru ?_
      | (refine awp_if rfl (fun hb => ?_) (fun hb => ?_) <;> (try simp at hb) <;> try (exfalso; omega))
      | refine inN ?_
    exact ⟨rfl, hw, hx, Fr.refl H⟩
theorem sigsS (U : List Str) (hU : U.length ≤ 30000000) : ∀ N, SigS W0 U N ∧ SpecS W0 U N
  | 0 => ⟨fun t s p o1 o2 H r w hN ht => by have := ht.pos; omega, fun t x p o2 H r rt w hN ht => by have := ht.pos; omega⟩
  | N + 1 => have ih := sigsS U hU N; ⟨sigS_step hU ih.1 ih.2, specS_step hU ih.1⟩
end Go.Av
namespace Go.Av
open Go.Proofs
variable {W0 : World}
set_option maxRecDepth 10000
set_option maxHeartbeats 4000000
theorem findL_nodup : ∀ {l : List Hs}, (l.map Hs.label).Nodup → ∀ j (h : j < l.length), findL (isH l[j].label) l = some l[j]
  | x :: l, hn, 0, _ => by
    simp only [List.map_cons, List.nodup_cons] at hn
    have : findL (isH x.label) l = none := findL_none.2 fun y hy => by
      simp only [isH, beq_eq_false_iff_ne, ne_eq]
      intro e; exact hn.1 (e ▸ List.mem_map_of_mem hy)
    simp [findL, this, isH]
  | x :: l, hn, j + 1, h => by
    simp only [List.map_cons, List.nodup_cons] at hn
    have := findL_nodup hn.2 j (by simpa using h)
    simp only [List.getElem_cons_succ, findL, this]
theorem gt_dec (a b : Str) : (!decide (a < b) && !(a == b)) = decide (b < a) := by
  have := bytes_gt a b
  rw [bytesLess_lt] at this
  rw [← this, Bool.not_or]
theorem ge_end {H Hc : Hp} {r : Nat} {w : Wk} {v : AV} (hv : Data v) (hw : WKo Hc r w) (hr : r < H.objs.length) (hlen : H.objs.length ≤ Hc.objs.length) (hf : ∀ j, j < H.objs.length → j ≠ r → Hc.objs[j]? = H.objs[j]?) :
    ∃ m, H.hi.length ≤ m ∧ (H.objs.map (clnO H.objs.length m) = H.objs → (cln H.objs.length m v = v ∧ WKo ⟨(Hc.objs.take H.objs.length).map (clnO H.objs.length m), Hc.hi.take m⟩ r w ∧ Fr (· = r) H ⟨(Hc.objs.take H.objs.length).map (clnO H.objs.length m), Hc.hi.take m⟩)) :=
  ⟨max H.hi.length Hc.hi.length, Nat.le_max_left _ _, fun hold => ⟨hv _ _, wko_end hw hr (Nat.le_max_right _ _), fr_end hlen hf hold _⟩⟩
theorem sf40 {out : List Hs} {p : Path} {o1 o2 : Own} {H : Hp} {r : Nat} {w : Wk} (hn : (out.map Hs.label).Nodup) (h2 : ∀ h ∈ out, 2 ≤ h.label.length) (hlo : out.length ≤ 60000000) (hp : p.length ≤ 67108863) (hX : w.X.length + out.length ≤ 67108863) (hw : WKo H r w) :
    SF Tryz.prog W0 40 [.ref r 0, .sl 6 (Hs.avs out) o1, .sl 1 (ints p) o2] H fun x H' => x = .tuple [] ∧ WKo H' r { w with X := w.X ++ endsL out p } ∧ Fr (· = r) H H' := by
  have hlt := hw.lt
  have he : ∀ x ∈ out.map Hs.label, x ≠ [] := fun x hx e => by
    obtain ⟨h, hh, rfl⟩ := List.mem_map.1 hx
    have := h2 h hh; rw [e] at this; simp at this
  obtain ⟨S, hS⟩ : ∃ S, sortS (out.map Hs.label) = S := ⟨_, rfl⟩
  have hSl : S.length = out.length := by rw [← hS, sortS_len]; simp
  refine SF.cut (sf_start [] 77 Tryz.func40 rfl rfl rfl (by decide) (by simp) ?_)
  repeat' first
    | refine aSq ?_ | refine aBl ?_
    | refine ru ?_
    | fail
  refine awp_loop_inv (fun q st => ∃ (k : Nat) (Hc : Hp), q = out.length - k ∧ k ≤ out.length ∧ WKo Hc r { w with X := w.X ++ (S.take k).map (linkOf out p) } ∧ H.objs.length ≤ Hc.objs.length ∧ (∀ j, j < H.objs.length → j ≠ r → Hc.objs[j]? = H.objs[j]?) ∧
    Sub st ⟨77, [(0, .ref r 0), (1, .sl 6 (Hs.avs out) o1), (2, .sl 1 (ints p) .shut), (6, .str (lastS S k))], Hc⟩) out.length
    ⟨0, H, by simp, by simp, by simpa using hw, Nat.le_refl _, fun _ _ _ => rfl, sb (only_cons (by simp) (only_cons (by simp) (only_cons (by simp) (only_cons (by simp [lastS]) only_nil))))⟩ ?_
  clear hw
  rintro q st ⟨k, Hc, rfl, hk, hwc, hlc, hfc, hs2⟩
  refine awp_sub hs2 ?_
  clear hs2 st
  repeat' first
    | refine aSq ?_ | refine aBl ?_
    | refine ru ?_
    | fail
  obtain ⟨la, hla⟩ : ∃ la, lastS S k = la := ⟨_, rfl⟩
  rw [hla]
  refine awp_loop_inv (fun q st => ∃ (i : Nat) (b : Int), q = out.length - i ∧ i ≤ out.length ∧
      ((b = -1 ∧ ∀ h ∈ out.take i, ¬ la < h.label) ∨ ∃ j, ∃ hj : j < out.length, b = (j : Int) ∧ la < out[j].label ∧ ∀ h ∈ out.take i, la < h.label → ¬ h.label < out[j].label) ∧
    Sub st ⟨77, [(0, .ref r 0), (1, .sl 6 (Hs.avs out) o1), (2, .sl 1 (ints p) .shut), (6, .str la), (7, .int .i64 b), (8, .int .i64 i)], Hc⟩) out.length
    ⟨0, -1, by simp, by simp, .inl ⟨rfl, by simp⟩, sb⟩ ?_
  rintro q st ⟨i, b, rfl, hi, hb0, hs2⟩
  refine awp_sub hs2 ?_
  clear hs2 st
  rcases Nat.lt_or_ge i out.length with hlt2 | hge
  · have htk := take_one out i hlt2
    rcases hb0 with ⟨rfl, hall⟩ | ⟨j, hj, rfl, hg, hmin⟩
    · by_cases hgt : la < out[i].label
      · repeat' first
          | refine aSq ?_ | refine aSk ?_ | refine aBl ?_ | refine tN ?_
          | (refine dr 5 [(0, true), (1, true), (2, true), (3, true), (4, true), (5, true), (6, true), (7, true), (8, true), (9, true), (10, true), (11, true), (12, true), (13, true), (14, true), (15, true), (16, true), (17, true), (18, true), (19, true), (20, true), (21, true), (22, true), (23, true)] [] ?_; refine da 7 (fun _ => ?_) (h := (by simp (disch := omega) [bytesLess_lt, gt_dec, hgt]; with_reducible rfl)); (first | (refine de (hs' := (by simp (disch := omega) [bytesLess_lt, gt_dec, hgt]; with_reducible rfl)) (fun hb => ?_) (fun hb => ?_) <;> (try simp at hb) <;> try (exfalso; omega)) | (refine da 1 (fun _ => ?_) (h := (by simp (disch := omega) [bytesLess_lt, gt_dec, hgt]; with_reducible rfl)))); all_goals (refine da 2 (fun _ => ?_) (h := (by simp (disch := omega) [bytesLess_lt, gt_dec, hgt]; with_reducible rfl)); (first | (refine de (hs' := (by simp (disch := omega) [bytesLess_lt, gt_dec, hgt]; with_reducible rfl)) (fun hb => ?_) (fun hb => ?_) <;> (try simp at hb) <;> try (exfalso; omega)) | (refine da 1 (fun _ => ?_) (h := (by simp (disch := omega) [bytesLess_lt, gt_dec, hgt]; with_reducible rfl)))); all_goals (refine dl ?_ (h := (by simp (disch := omega) [bytesLess_lt, gt_dec, hgt]; with_reducible rfl)))))
          | (refine ru ?_ (by simp (disch := omega) [bytesLess_lt, gt_dec, hgt]; with_reducible rfl))
          | (refine awp_if rfl (fun hb => ?_) (fun hb => ?_) <;> (try simp at hb) <;> try (exfalso; omega))
          | fail
        refine ⟨out.length - (i + 1), by omega, i + 1, i, rfl, by omega, .inr ⟨i, hlt2, rfl, hgt, fun h hh hg' => ?_⟩, sb⟩
        rw [htk] at hh
        rcases List.mem_append.1 hh with hh | hh
        · exact absurd hg' (hall h hh)
        · rw [List.mem_singleton.1 hh]; exact List.lt_irrefl _
      · repeat' first
          | refine aSq ?_ | refine aSk ?_ | refine aBl ?_ | refine tN ?_
          | (refine dr 5 [(0, true), (1, true), (2, true), (3, true), (4, true), (5, true), (6, true), (7, true), (8, true), (9, true), (10, true), (11, true), (12, true), (13, true), (14, true), (15, true), (16, true), (17, true), (18, true), (19, true), (20, true), (21, true), (22, true), (23, true)] [] ?_; refine da 7 (fun _ => ?_) (h := (by simp (disch := omega) [bytesLess_lt, gt_dec, hgt]; with_reducible rfl)); (first | (refine de (hs' := (by simp (disch := omega) [bytesLess_lt, gt_dec, hgt]; with_reducible rfl)) (fun hb => ?_) (fun hb => ?_) <;> (try simp at hb) <;> try (exfalso; omega)) | (refine da 1 (fun _ => ?_) (h := (by simp (disch := omega) [bytesLess_lt, gt_dec, hgt]; with_reducible rfl)))); all_goals (refine da 2 (fun _ => ?_) (h := (by simp (disch := omega) [bytesLess_lt, gt_dec, hgt]; with_reducible rfl)); (first | (refine de (hs' := (by simp (disch := omega) [bytesLess_lt, gt_dec, hgt]; with_reducible rfl)) (fun hb => ?_) (fun hb => ?_) <;> (try simp at hb) <;> try (exfalso; omega)) | (refine da 1 (fun _ => ?_) (h := (by simp (disch := omega) [bytesLess_lt, gt_dec, hgt]; with_reducible rfl)))); all_goals (refine dl ?_ (h := (by simp (disch := omega) [bytesLess_lt, gt_dec, hgt]; with_reducible rfl)))))
          | (refine ru ?_ (by simp (disch := omega) [bytesLess_lt, gt_dec, hgt]; with_reducible rfl))
          | (refine awp_if rfl (fun hb => ?_) (fun hb => ?_) <;> (try simp at hb) <;> try (exfalso; omega))
          | fail
        refine ⟨out.length - (i + 1), by omega, i + 1, -1, rfl, by omega, .inl ⟨rfl, fun h hh => ?_⟩, sb⟩
        rw [htk] at hh
        rcases List.mem_append.1 hh with hh | hh
        · exact hall h hh
        · rw [List.mem_singleton.1 hh]; exact hgt
    · by_cases hgt : la < out[i].label
      · by_cases hlj : out[i].label < out[j].label
        · repeat' first
            | refine aSq ?_ | refine aSk ?_ | refine aBl ?_ | refine tN ?_
            | (refine dr 5 [(0, true), (1, true), (2, true), (3, true), (4, true), (5, true), (6, true), (7, true), (8, true), (9, true), (10, true), (11, true), (12, true), (13, true), (14, true), (15, true), (16, true), (17, true), (18, true), (19, true), (20, true), (21, true), (22, true), (23, true)] [] ?_; refine da 7 (fun _ => ?_) (h := (by simp (disch := omega) [bytesLess_lt, gt_dec, hgt, hlj]; with_reducible rfl)); (first | (refine de (hs' := (by simp (disch := omega) [bytesLess_lt, gt_dec, hgt, hlj]; with_reducible rfl)) (fun hb => ?_) (fun hb => ?_) <;> (try simp at hb) <;> try (exfalso; omega)) | (refine da 1 (fun _ => ?_) (h := (by simp (disch := omega) [bytesLess_lt, gt_dec, hgt, hlj]; with_reducible rfl)))); all_goals (refine da 2 (fun _ => ?_) (h := (by simp (disch := omega) [bytesLess_lt, gt_dec, hgt, hlj]; with_reducible rfl)); (first | (refine de (hs' := (by simp (disch := omega) [bytesLess_lt, gt_dec, hgt, hlj]; with_reducible rfl)) (fun hb => ?_) (fun hb => ?_) <;> (try simp at hb) <;> try (exfalso; omega)) | (refine da 1 (fun _ => ?_) (h := (by simp (disch := omega) [bytesLess_lt, gt_dec, hgt, hlj]; with_reducible rfl)))); all_goals (refine dl ?_ (h := (by simp (disch := omega) [bytesLess_lt, gt_dec, hgt, hlj]; with_reducible rfl)))))
            | (refine ru ?_ (by simp (disch := omega) [bytesLess_lt, gt_dec, hgt, hlj]; with_reducible rfl))
            | (refine awp_if rfl (fun hb => ?_) (fun hb => ?_) <;> (try simp at hb) <;> try (exfalso; omega))
            | fail
          refine ⟨out.length - (i + 1), by omega, i + 1, i, rfl, by omega, .inr ⟨i, hlt2, rfl, hgt, fun h hh hg' => ?_⟩, sb⟩
          rw [htk] at hh
          rcases List.mem_append.1 hh with hh | hh
          · exact fun q => hmin h hh hg' (List.lt_trans q hlj)
          · rw [List.mem_singleton.1 hh]; exact List.lt_irrefl _
        · repeat' first
            | refine aSq ?_ | refine aSk ?_ | refine aBl ?_ | refine tN ?_
            | (refine dr 5 [(0, true), (1, true), (2, true), (3, true), (4, true), (5, true), (6, true), (7, true), (8, true), (9, true), (10, true), (11, true), (12, true), (13, true), (14, true), (15, true), (16, true), (17, true), (18, true), (19, true), (20, true), (21, true), (22, true), (23, true)] [] ?_; refine da 7 (fun _ => ?_) (h := (by simp (disch := omega) [bytesLess_lt, gt_dec, hgt, hlj]; with_reducible rfl)); (first | (refine de (hs' := (by simp (disch := omega) [bytesLess_lt, gt_dec, hgt, hlj]; with_reducible rfl)) (fun hb => ?_) (fun hb => ?_) <;> (try simp at hb) <;> try (exfalso; omega)) | (refine da 1 (fun _ => ?_) (h := (by simp (disch := omega) [bytesLess_lt, gt_dec, hgt, hlj]; with_reducible rfl)))); all_goals (refine da 2 (fun _ => ?_) (h := (by simp (disch := omega) [bytesLess_lt, gt_dec, hgt, hlj]; with_reducible rfl)); (first | (refine de (hs' := (by simp (disch := omega) [bytesLess_lt, gt_dec, hgt, hlj]; with_reducible rfl)) (fun hb => ?_) (fun hb => ?_) <;> (try simp at hb) <;> try (exfalso; omega)) | (refine da 1 (fun _ => ?_) (h := (by simp (disch := omega) [bytesLess_lt, gt_dec, hgt, hlj]; with_reducible rfl)))); all_goals (refine dl ?_ (h := (by simp (disch := omega) [bytesLess_lt, gt_dec, hgt, hlj]; with_reducible rfl)))))
            | (refine ru ?_ (by simp (disch := omega) [bytesLess_lt, gt_dec, hgt, hlj]; with_reducible rfl))
            | (refine awp_if rfl (fun hb => ?_) (fun hb => ?_) <;> (try simp at hb) <;> try (exfalso; omega))
            | fail
          refine ⟨out.length - (i + 1), by omega, i + 1, j, rfl, by omega, .inr ⟨j, hj, rfl, hg, fun h hh hg' => ?_⟩, sb⟩
          rw [htk] at hh
          rcases List.mem_append.1 hh with hh | hh
          · exact hmin h hh hg'
          · rw [List.mem_singleton.1 hh]; exact hlj
      · repeat' first
          | refine aSq ?_ | refine aSk ?_ | refine aBl ?_ | refine tN ?_
          | (refine dr 5 [(0, true), (1, true), (2, true), (3, true), (4, true), (5, true), (6, true), (7, true), (8, true), (9, true), (10, true), (11, true), (12, true), (13, true), (14, true), (15, true), (16, true), (17, true), (18, true), (19, true), (20, true), (21, true), (22, true), (23, true)] [] ?_; refine da 7 (fun _ => ?_) (h := (by simp (disch := omega) [bytesLess_lt, gt_dec, hgt]; with_reducible rfl)); (first | (refine de (hs' := (by simp (disch := omega) [bytesLess_lt, gt_dec, hgt]; with_reducible rfl)) (fun hb => ?_) (fun hb => ?_) <;> (try simp at hb) <;> try (exfalso; omega)) | (refine da 1 (fun _ => ?_) (h := (by simp (disch := omega) [bytesLess_lt, gt_dec, hgt]; with_reducible rfl)))); all_goals (refine da 2 (fun _ => ?_) (h := (by simp (disch := omega) [bytesLess_lt, gt_dec, hgt]; with_reducible rfl)); (first | (refine de (hs' := (by simp (disch := omega) [bytesLess_lt, gt_dec, hgt]; with_reducible rfl)) (fun hb => ?_) (fun hb => ?_) <;> (try simp at hb) <;> try (exfalso; omega)) | (refine da 1 (fun _ => ?_) (h := (by simp (disch := omega) [bytesLess_lt, gt_dec, hgt]; with_reducible rfl)))); all_goals (refine dl ?_ (h := (by simp (disch := omega) [bytesLess_lt, gt_dec, hgt]; with_reducible rfl)))))
          | (refine ru ?_ (by simp (disch := omega) [bytesLess_lt, gt_dec, hgt]; with_reducible rfl))
          | (refine awp_if rfl (fun hb => ?_) (fun hb => ?_) <;> (try simp at hb) <;> try (exfalso; omega))
          | fail
        refine ⟨out.length - (i + 1), by omega, i + 1, j, rfl, by omega, .inr ⟨j, hj, rfl, hg, fun h hh hg' => ?_⟩, sb⟩
        rw [htk] at hh
        rcases List.mem_append.1 hh with hh | hh
        · exact hmin h hh hg'
        · rw [List.mem_singleton.1 hh] at hg'; exact absurd hg' hgt
  · rw [List.take_of_length_le hge] at hb0
    rcases hb0 with ⟨rfl, hall⟩ | ⟨j, hj, rfl, hg, hmin⟩
    · repeat' first
        | refine aSq ?_ | refine aRt ?_ | refine aEx ?_ | refine tN ?_ | refine tR ?_ | refine iR ?_
        | refine ru ?_
        | (refine awp_if rfl (fun hb => ?_) (fun hb => ?_) <;> (try simp at hb) <;> try (exfalso; omega))
        | fail
      have hke : k = (out.map Hs.label).length := sel_end hn he (by simpa using hk) (by
        rw [hS, hla]
        intro x hx
        obtain ⟨h, hh, rfl⟩ := List.mem_map.1 hx
        exact hall h hh)
      rw [List.take_of_length_le (by rw [hSl]; simp at hke; omega)] at hwc
      have : endsL out p = S.map (linkOf out p) := by rw [endsL, hS]
      rw [this]
      exact ge_end (fun _ _ => rfl) hwc hlt hlc hfc
    · obtain ⟨hkS, hSk⟩ := sel_next hn he (k := k) (by simpa using hk) (x := out[j].label) (List.mem_map_of_mem (List.getElem_mem hj)) (by rw [hS, hla]; exact hg) (by
        rw [hS, hla]
        intro y hy
        obtain ⟨h, hh, rfl⟩ := List.mem_map.1 hy
        exact hmin h hh)
      have h2j := h2 _ (List.getElem_mem hj)
      have hlk : linkOf out p out[j].label = ⟨p, out[j].label.take 1, out[j].label.drop 2, out[j].site, if out[j].br then [out[j].label.drop 2] else []⟩ := by
        unfold linkOf; rw [findL_nodup hn j hj]
      obtain ⟨rest, hrest⟩ : ∃ rest : List Str, (if out[j].br then [out[j].label.drop 2] else []) = rest := ⟨_, rfl⟩
      rw [hrest] at hlk
      obtain ⟨vL, vX, hob, aL, aX, hpt⟩ := hwc
      have hlr := obj_lt hob
      have hobr : ∀ x : AObj, (Hc.objs ++ [x])[r]? = some (.cells [vL, vX, .int .i64 w.E]) := fun x => by rw [List.getElem?_append_left hlr]; exact hob
      have hsr : ∀ x y : AObj, (Hc.objs ++ [x]).set r y = Hc.objs.set r y ++ [x] := fun x y => List.set_append_left _ _ hlr
      clear hlr
      repeat' first
        | (refine cutIf 11 (fun s' => Sub s' ⟨77, [(0, .ref r 0), (1, .sl 6 (Hs.avs out) o1), (2, .sl 1 (ints p) .shut), (6, .str out[j].label), (9, .ref Hc.objs.length 0), (10, .sl 1 (strs rest) .shut)], ⟨Hc.objs ++ [.cells [.str out[j].bl, .sl 1 (ints out[j].site) .shut, .bool out[j].br, .sl 6 (Hs.avs out[j].bins) .shut]], Hc.hi⟩⟩) (aSq ?_) (fun s' hs' => thenN (awp_sub hs' ?_)))
        | refine aSq ?_ | refine aSk ?_ | refine aEx ?_ | refine tN ?_
        | (refine ru ?_ (by simp (disch := omega) [small_ifI]; with_reducible rfl))
        | (refine awp_if rfl (fun hb => ?_) (fun hb => ?_) <;> (try simp at hb) <;> try (exfalso; omega))
        | fail
      · have e : rest = [out[j].label.drop 2] := by rw [← hrest, if_pos hb]
        rw [e]
        exact ⟨rfl, sb (by (repeat' first | exact only_nil | refine only_cons (by simp [strs]) ?_))⟩
      · have e : rest = [] := by rw [← hrest, if_neg (by simp [hb])]
        rw [e]
        exact ⟨rfl, sb (by (repeat' first | exact only_nil | refine only_cons (by simp [strs]) ?_))⟩
      refine awp_drawJ (id := 13) (fun X => X.objs = Hc.objs ++ [.cells [.str out[j].bl, .sl 1 (ints out[j].site) .shut, .bool out[j].br, .sl 6 (Hs.avs out[j].bins) .shut]]) [(0, true), (1, true), (2, true), (3, true), (4, true), (5, true), (6, true), (7, true), (8, true), (9, true), (10, true), (11, true), (12, true), (13, true), (14, false), (15, false), (16, true), (17, true), (18, false)] [18] tab_ok mixedT (by decide +kernel) (rfl) ?_
      refine adj_fixN (mu := mu0) rfl (by decide +kernel) rfl (rfl) (fun X hX => by simp [hX, hobr]; rfl) (by simp; rfl) ?_
      refine adj_fixN (mu := mu0) rfl (by decide +kernel) rfl (rfl) (fun X hX => by simp [hX, hobr]; rfl) (by simp; rfl) ?_
      refine adj_fixN (mu := mu0) rfl (by decide +kernel) rfl (rfl) (fun X hX => by simp [hX, hobr]; rfl) (by simp; rfl) ?_
      refine adj_fixN (mu := mu0) rfl (by decide +kernel) rfl (rfl) (fun X hX => by simp [hX, hobr]; rfl) (by simp; rfl) ?_
      refine adj_fixN (mu := mu0) rfl (by decide +kernel) rfl (rfl) (fun X hX => by simp [hX, hobr]; rfl) (by simp; rfl) ?_
      refine adj_fixN (mu := mu0) rfl (by decide +kernel) rfl (rfl) (fun X hX => by simp [hX, hobr]; rfl) (by simp; rfl) ?_
      refine adj_fixN (mu := mu0) rfl (by decide +kernel) rfl (rfl) (fun X hX => by simp [hX, hobr]; rfl) (by simp; rfl) ?_
      refine adj_fixN (mu := mu0) rfl (by decide +kernel) rfl (rfl) (fun X hX => by simp (disch := omega) [small_if, small_ifI]; rfl) (by simp; rfl) ?_
      refine adj_fixN (mu := mu0) rfl (by decide +kernel) rfl (rfl) (fun X hX => by simp [hX, hobr]; rfl) (by simp; rfl) ?_
      refine adj_fixN (mu := mu0) rfl (by decide +kernel) rfl (rfl) (fun X hX => by simp (disch := omega) [small_if, small_ifI]; rfl) (by simp; rfl) ?_
      refine adj_fixN (mu := mu0) rfl (by decide +kernel) rfl (rfl) (fun X hX => by simp [hX, hobr]; rfl) (by simp; rfl) ?_
      refine adj_fixN (mu := mu0) rfl (by decide +kernel) rfl (rfl) (fun X hX => by simp [hX, hobr]; rfl) (by simp; rfl) ?_
      refine adj_fixN (mu := mu0) rfl (by decide +kernel) rfl (rfl) (fun X hX => by simp [hX, hobr]; rfl) (by simp; rfl) ?_
      refine adj_fixN (mu := mu0) rfl (by decide +kernel) rfl (rfl) (fun X hX => by simp [hX, hobr]; rfl) (by simp; rfl) ?_
      refine adj_stepN (mu := mu0) tab_ok rfl (by simp [hobr]; first | exact ⟨rfl, rfl⟩ | rfl) (.inr (rfl)) (by simp; rfl) ?_
      obtain ⟨v', H', e1, a2, g2, ho2, a3, p3⟩ := (aX.same (H' := ⟨Hc.objs ++ [.cells [.str out[j].bl, .sl 1 (ints out[j].site) .shut, .bool out[j].br, .sl 6 (Hs.avs out[j].bins) .shut]], Hc.hi⟩) rfl).append2 (T := tab) (E0.gr _) (x := .sl 5 [(Lk.mk p (out[j].label.take 1) (out[j].label.drop 2) out[j].site rest).av] .capped) (fs := [(Lk.mk p (out[j].label.take 1) (out[j].label.drop 2) out[j].site rest).av]) (t := 24) (e := 38) tab24 tab38 rfl (by decide) (by simp) (by simp [Lk.av]) (by simp; omega) (aL.same rfl) hpt.symm
      simp only [Lk.av] at e1
      refine adj_stepN (mu := mu0) (H' := H') tab_ok rfl (by simp [e1]; rfl) (.inr ho2) (by simp; rfl) ?_
      refine adj_fixN (mu := mu0) rfl (by decide +kernel) rfl (ho2) (fun X hX => by simp [hX, hobr, ho2, hsr, a2.cells, a2.okc]; rfl) (by simp; rfl) ?_
      refine adj_fixN (mu := mu0) rfl (by decide +kernel) rfl (ho2) (fun X hX => by simp [hX, hobr, ho2, hsr, a2.cells, a2.okc]; rfl) (by simp; rfl) ?_
      refine adj_stepN (mu := mu0) tab_ok rfl (by simp [hobr, ho2, hsr, a2.cells, a2.okc]; first | exact ⟨rfl, rfl⟩ | rfl) (.inl rfl) (by simp; rfl) ?_
      refine adj_nil ?_
      subst hS
      have hl6 : lastS (sortS (out.map Hs.label)) (k + 1) = out[j].label := by rw [lastS_succ hkS, hSk]
      have hlr := obj_lt hob
      have hkl : k < out.length := by omega
      refine inN (tN ⟨out.length - (k + 1), by omega, k + 1, ⟨Hc.objs.set r (.cells [vL, v', .int .i64 w.E]) ++ [.cells [.str out[j].bl, .sl 1 (ints out[j].site) .shut, .bool out[j].br, .sl 6 (Hs.avs out[j].bins) .shut]], H'.hi⟩, rfl, by omega, ⟨vL, v', ?_, a3.same rfl, ?_, p3.symm⟩, ?_, ?_, sb (by rw [hl6]; (repeat' first | exact only_nil | refine only_cons (by simp) ?_))⟩)
      · rw [List.getElem?_append_left (by simpa using hlr)]; simp [hlr]
      · rw [take_one _ k hkS, hSk, List.map_append, ← List.append_assoc, lks_append]
        simp only [List.map_cons, List.map_nil, hlk]
        exact a2.same rfl
      · simp; omega
      · intro q hq hne
        rw [List.getElem?_append_left (by simp; omega), List.getElem?_set_ne (Ne.symm hne)]
        exact hfc q hq hne
end Go.Av
