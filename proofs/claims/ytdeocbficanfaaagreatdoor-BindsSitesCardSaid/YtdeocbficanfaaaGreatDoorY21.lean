/-
  Go read by value: lemmas (part 21): M6, D49, A25, D30.
-/
import Derived.Test.YtdeocbficanfaaaGreatDoorY13
import Derived.Test.YtdeocbficanfaaaGreatDoorY16
import Derived.Test.YtdeocbficanfaaaGreatDoorY17
import Derived.Test.YtdeocbficanfaaaGreatDoorY20
set_option linter.unusedVariables false
set_option linter.unusedSimpArgs false
set_option linter.unusedSectionVars false
namespace Go.Av
theorem typW_ws {T : Tr} : ∀ (N : Nat) (s : List Bd) (t : Tr) (p : Path) (w : Wk), t.cnt ≤ N → TyW t → SS T p s → p ≠ [] → T.atI p = some t → WkS T w (typW N s t p w) t.nref
  | 0, _, t, _, w, hN, ht, _, _, _ => by have := ht.pos; omega
  | N + 1, s, t, p, w, hN, ht, hs, hp, hat => by
    obtain ⟨k, n, a, b, l, rfl, ha, hl, hr⟩ : ∃ k n a b l, t = .node k n a b l ∧ a.length ≤ 128 ∧ (∀ t ∈ l, TyW t) ∧ (refK k = true → k = 4) := by
      cases ht with
      | mk h4 ha hl hr => exact ⟨_, _, _, _, _, rfl, ha, hl, hr⟩
    simp only [typW, Tr.kids, Tr.kind, Tr.name]
    simp only [Tr.cnt] at hN
    have hs' : ∀ i, SS T (down p i) (if k = 7 ∨ k = 62 ∨ k = 72 then bindB s (116 :: 58 :: a) p [] else s) := fun i => by
      split
      · rename_i hk
        refine (hs.down i).bind (ltP_down p i) ⟨hp, _, hat, ?_⟩
        simp only [Tr.kind]
        rcases hk with rfl | rfl | rfl <;> decide
      · exact hs.down i
    have h0 : WkS T w (if k = 4 then (refer w s p [116] a).1 else w) (if refK k then 1 else 0) := by
      by_cases hk : k = 4
      · subst hk; exact refer_ws w hs hat rfl
      · have : refK k = false := by
          cases h : refK k with
          | false => rfl
          | true => exact absurd (hr h) hk
        rw [if_neg hk, this]; exact .refl _ _
    have h1 := foldK_ws (T := T) (f := fun i t w => typW N (if k = 7 ∨ k = 62 ∨ k = 72 then bindB s (116 :: 58 :: a) p [] else s) t (down p i) w) (g := Tr.nref) l 0 (if k = 4 then (refer w s p [116] a).1 else w) (fun j h w => by
      have hc := Tr.cnts_le l j h
      rw [Nat.zero_add]
      exact typW_ws N _ _ _ w (by omega) (hl _ (List.getElem_mem h)) (hs' j) (down_ne p j) (atI_down hat h (hl _ (List.getElem_mem h)).pos))
    rw [nrefs_sum] at h1
    exact (h0.trans h1).eq rfl
theorem exprW_ws {T : Tr} : ∀ (N : Nat) (s : List Bd) (t : Tr) (p : Path) (w : Wk), t.cnt ≤ N → ExW t → SS T p s → p ≠ [] → T.atI p = some t → WkS T w (exprW N s t p w) t.nref
  | 0, _, t, _, w, hN, ht, _, _, _ => by have := ht.pos; omega
  | N + 1, s, t, p, w, hN, ht, hs, hp, hat => by
    have ih := exprW_ws (T := T) N
    have it := typW_ws (T := T) N
    have hb : ∀ (i : Nat) (x : Str), (∃ y, T.atI p = some y ∧ y.kind ∈ K1) → SS T (down p i) (bindB s (118 :: 58 :: x) p []) := fun i x ⟨y, h1, h2⟩ => (hs.down i).bind (ltP_down p i) ⟨hp, y, h1, h2⟩
    cases ht with
    | var hx => 
      simp only [exprW, Tr.kind, Tr.kids, foldK, if_true]
      exact (refer_ws w hs hat rfl).eq (by simp [Tr.nref, Tr.nrefs, refK])
    | @lam n a b t e ha h1 h2 =>
      simp only [Tr.cnt, Tr.cnts] at hN
      simp only [exprW, Tr.kind, Tr.kids, foldK, Tr.name]
      simp
      have q1 := it s t (down p 0) w (by omega) h1 (hs.down 0) (down_ne p 0) (atI_down hat (by simp) h1.pos)
      have q2 := ih _ e (down p 1) (typW N s t (down p 0) w) (by omega) h2 (hb 1 a ⟨_, hat, by simp [Tr.kind, K1]⟩) (down_ne p 1) (atI_down hat (i := 1) (by simp) h2.pos)
      exact (q1.trans q2).eq (by simp [Tr.nref, Tr.nrefs, refK])
    | @bnd n a b t e ha h1 h2 =>
      simp only [Tr.cnt, Tr.cnts] at hN
      simp only [exprW, Tr.kind, Tr.kids, foldK, Tr.name]
      simp
      have q1 := ih s t (down p 0) w (by omega) h1 (hs.down 0) (down_ne p 0) (atI_down hat (by simp) h1.pos)
      have q2 := ih _ e (down p 1) (exprW N s t (down p 0) w) (by omega) h2 (hb 1 a ⟨_, hat, by simp [Tr.kind, K1]⟩) (down_ne p 1) (atI_down hat (i := 1) (by simp) h2.pos)
      exact (q1.trans q2).eq (by simp [Tr.nref, Tr.nrefs, refK])
    | @arm n a b e hb' h2 =>
      simp only [Tr.cnt, Tr.cnts] at hN
      simp only [exprW, Tr.kind, Tr.kids, foldK, Tr.name, Tr.mark]
      simp
      have q2 := ih _ e (down p 0) w (by omega) h2 (hb 0 b ⟨_, hat, by simp [Tr.kind, K1]⟩) (down_ne p 0) (atI_down hat (i := 0) (by simp) h2.pos)
      exact q2.eq (by simp [Tr.nref, Tr.nrefs, refK])
    | @fold n a b e t l h1 h2 h3 =>
      simp only [Tr.cnt, Tr.cnts] at hN
      simp only [exprW, Tr.kind, Tr.kids, foldK]
      simp
      have q1 := ih s e (down p 0) w (by omega) h1 (hs.down 0) (down_ne p 0) (atI_down hat (by simp) h1.pos)
      have q2 := it s t (down p 1) (exprW N s e (down p 0) w) (by omega) h2 (hs.down 1) (down_ne p 1) (atI_down hat (i := 1) (by simp) h2.pos)
      have q3 := foldK_ws (T := T) (f := fun i k w => if i = 1 then typW N s k (down p i) w else exprW N s k (down p i) w) (g := Tr.nref) l 2 (typW N s t (down p 1) (exprW N s e (down p 0) w)) (fun j h w => by
        have hc := Tr.cnts_le l j h
        have hm := h3 _ (List.getElem_mem h)
        rw [if_neg (by omega)]
        have := atI_down hat (i := 2 + j) (by simp; omega) (by simpa [Nat.add_comm 2 j] using hm.pos)
        exact ih s l[j] (down p (2 + j)) w (by omega) hm (hs.down _) (down_ne p _) (by simpa [Nat.add_comm 2 j] using this))
      rw [nrefs_sum] at q3
      exact ((q1.trans q2).trans q3).eq (by simp [Tr.nref, Tr.nrefs, refK]; omega)
    | @other k n a b l n23 n24 n29 n33 n34 hl hr =>
      simp only [Tr.cnt] at hN
      simp only [exprW, Tr.kind, Tr.kids, n23, n24, n29, n33, n34, if_false, false_and, or_false]
      have q3 := foldK_ws (T := T) (f := fun i k w => exprW N s k (down p i) w) (g := Tr.nref) l 0 w (fun j h w => by
        have hc := Tr.cnts_le l j h
        have hm := hl _ (List.getElem_mem h)
        rw [Nat.zero_add]
        exact ih s l[j] (down p j) w (by omega) hm (hs.down _) (down_ne p _) (atI_down hat h hm.pos))
      rw [nrefs_sum] at q3
      exact q3.eq (by simp [Tr.nref, hr])
def New (T : Tr) (q : Path) (s s' : List Bd) : Prop := ∀ b ∈ s', b ∈ s ∨ (b.site = q ∧ BdS T q b.br)
theorem New.refl (T : Tr) (q : Path) (s : List Bd) : New T q s s := fun _ h => .inl h
theorem New.bind {T : Tr} {q : Path} {s s' : List Bd} {x : Str} {ins : List Hs} (h : New T q s s') (hb : BdS T q false) : New T q s (bindB s' x q ins) := fun b m => by
  rcases List.mem_append.1 m with m | m
  · exact h b m
  · rw [List.mem_singleton.1 m]; exact .inr ⟨rfl, hb⟩
theorem New.bring {T : Tr} {q : Path} {s : List Bd} {ins : List Hs} (hb : BdS T q true) : New T q s (bringB s ins q) := fun b m => by
  rcases List.mem_append.1 m with m | m
  · exact .inl m
  · obtain ⟨k, _, rfl⟩ := List.mem_map.1 m; exact .inr ⟨rfl, hb⟩
theorem New.ss {T : Tr} {q r : Path} {s s' : List Bd} (h : New T q s s') (hs : SS T q s) (hq : ltP q r = true) : SS T r s' := fun b m => by
  rcases h b m with m | ⟨e, hb⟩
  · exact hs.lt hq b m
  · rw [e]; exact ⟨hq, hb⟩
theorem New.putKids {T : Tr} {p : Path} {s : List Bd} (hb : BdS T p false) : ∀ (l : List Tr) (x : Stt), New T p s x.S → New T p s (putKids p l x).S
  | [], _, h => h
  | t :: l, x, h => New.putKids hb l _ (h.bind hb)
theorem foldS_ws {T : Tr} {p : Path} {f : Nat → Tr → Wk × Stt → Wk × Stt} : ∀ (l : List Tr) (i : Nat) (x : Wk × Stt), SS T (down p i) x.2.S →
    (∀ j (h : j < l.length) x, SS T (down p (i + j)) x.2.S → WkS T x.1 (f (i + j) l[j] x).1 (l[j]).nref ∧ New T (down p (i + j)) x.2.S (f (i + j) l[j] x).2.S) → WkS T x.1 (foldK f i l x).1 (Tr.nrefs l)
  | [], _, x, _, _ => .refl _ _
  | t :: l, i, x, hx, hs => by
    simp only [foldK, Tr.nrefs]
    obtain ⟨h1, h2⟩ := hs 0 (by simp) x hx
    refine h1.trans (foldS_ws l (i + 1) _ (h2.ss hx (ltP_next p (by omega))) fun j h y hy => ?_)
    have e : i + 1 + j = i + (j + 1) := by omega
    rw [e] at hy ⊢
    exact hs (j + 1) (by simpa using h) y hy
def SigZ (T : Tr) (N : Nat) : Prop := ∀ (s : List Bd) (t : Tr) (p : Path) (w : Wk), t.cnt ≤ N → SgW t → SS T p s → p ≠ [] → T.atI p = some t → WkS T w (sigW N s t p w).1 t.nref
def SpecZ (T : Tr) (N : Nat) : Prop := ∀ (x : Stt) (t : Tr) (p : Path) (w : Wk), t.cnt ≤ N → SpW t → SS T p x.S → p ≠ [] → T.atI p = some t → WkS T w (specW N x t p w).1 t.nref ∧ New T p x.S (specW N x t p w).2.S
def ModZ (T : Tr) (N : Nat) : Prop := ∀ (s : List Bd) (t : Tr) (p : Path) (w : Wk), t.cnt ≤ N → MdW t → SS T p s → p ≠ [] → T.atI p = some t → WkS T w (modW N s t p w).1 t.nref
def DeclZ (T : Tr) (N : Nat) : Prop := ∀ (x : Stt) (t : Tr) (p : Path) (w : Wk), t.cnt ≤ N → DcW t → SS T p x.S → p ≠ [] → T.atI p = some t → WkS T w (declW N x t p w).1 t.nref ∧ New T p x.S (declW N x t p w).2.S
theorem dataZ {T : Tr} {N : Nat} {x : Stt} {k n : Int} {a b : Str} {l : List Tr} {p : Path} {w : Wk} (hk : k = 62 ∨ k = 72) (hN : (Tr.node k n a b l).cnt ≤ N) (ht : TyW (.node k n a b l)) (hs : SS T p x.S) (hp : p ≠ []) (hat : T.atI p = some (.node k n a b l)) :
    WkS T w (dataW N x (.node k n a b l) p w).1 (Tr.node k n a b l).nref ∧ New T p x.S (dataW N x (.node k n a b l) p w).2.S := by
  have hb : BdS T p false := ⟨hp, _, hat, by rcases hk with rfl | rfl <;> simp [Tr.kind, K1]⟩
  exact ⟨typW_ws N _ _ _ _ hN ht hs hp hat, New.putKids hb _ _ ((New.refl _ _ _).bind hb)⟩
theorem sigZ_step {T : Tr} {N : Nat} (ihg : SigZ T N) (ihp : SpecZ T N) : SigZ T (N + 1) := by
  intro s t p w hN ht hs hp hat
  cases ht with
  | name hx => rw [sigW_name]; exact (refer_ws w hs hat rfl).eq (by simp [Tr.nref, Tr.nrefs, refK])
  | @wh n a b g t2 h1 h2 =>
    simp only [Tr.cnt, Tr.cnts] at hN
    rw [sigW_wh]
    have q1 := ihg s g (down p 0) w (by omega) h1 (hs.down 0) (down_ne p 0) (atI_down hat (by simp) h1.pos)
    have q2 := typW_ws (T := T) N s t2 (down p 1) (sigW N s g (down p 0) w).1 (by omega) h2 (hs.down 1) (down_ne p 1) (atI_down hat (i := 1) (by simp) h2.pos)
    exact (q1.trans q2).eq (by simp [Tr.nref, Tr.nrefs, refK])
  | @body n a b l hl =>
    simp only [Tr.cnt] at hN
    rw [sigW_body]
    refine (foldS_ws (T := T) (p := p) l 0 (w, ⟨s, []⟩) (hs.down 0) fun j h x hx => ?_).eq (by simp [Tr.nref, refK])
    have hc := Tr.cnts_le l j h
    have hm := hl _ (List.getElem_mem h)
    rw [Nat.zero_add] at hx ⊢
    exact ihp x.2 l[j] (down p j) x.1 (by omega) hm hx (down_ne p j) (atI_down hat h hm.pos)
theorem specZ_step {T : Tr} {N : Nat} (ihg : SigZ T N) : SpecZ T (N + 1) := by
  intro x t p w hN ht hs hp hat
  have hb : t.kind ∈ K1 → BdS T p false := fun h => ⟨hp, _, hat, h⟩
  cases ht with
  | @val n a b t ha h1 =>
    simp only [Tr.cnt, Tr.cnts] at hN
    rw [specW_val]
    exact ⟨(typW_ws (T := T) N _ _ _ _ (by omega) h1 (hs.down 0) (down_ne p 0) (atI_down hat (by simp) h1.pos)).eq (by simp [Tr.nref, Tr.nrefs, refK]), (New.refl _ _ _).bind (hb (by simp [Tr.kind, K1]))⟩
  | typ0 ha => rw [specW_tysM]; exact ⟨(WkS.refl _ _).eq (by simp [Tr.nref, Tr.nrefs, refK]), (New.refl _ _ _).bind (hb (by simp [Tr.kind, K1]))⟩
  | @typ1 n a b t ha h1 =>
    simp only [Tr.cnt, Tr.cnts] at hN
    rw [specW_tysM]
    exact ⟨(typW_ws (T := T) N _ _ _ _ (by omega) h1 (hs.down 0) (down_ne p 0) (atI_down hat (by simp) h1.pos)).eq (by simp [Tr.nref, Tr.nrefs, refK]), (New.refl _ _ _).bind (hb (by simp [Tr.kind, K1]))⟩
  | data h8 h1 => rw [specW_data]; exact dataZ (.inl rfl) hN h1 hs hp hat
  | @str n a b g ha h1 =>
    simp only [Tr.cnt, Tr.cnts] at hN
    rw [specW_str]
    exact ⟨(ihg _ _ _ _ (by omega) h1 (hs.down 0) (down_ne p 0) (atI_down hat (by simp) h1.pos)).eq (by simp [Tr.nref, Tr.nrefs, refK]), (New.refl _ _ _).bind (hb (by simp [Tr.kind, K1]))⟩
  | @inc n a b g h1 =>
    simp only [Tr.cnt, Tr.cnts] at hN
    rw [specW_inc]
    exact ⟨(ihg _ _ _ _ (by omega) h1 (hs.down 0) (down_ne p 0) (atI_down hat (by simp) h1.pos)).eq (by simp [Tr.nref, Tr.nrefs, refK]), New.bring ⟨hp, _, hat, by simp [Tr.kind, K2]⟩⟩
  | share => simp only [specW, Tr.kind]; exact ⟨(WkS.refl _ _).eq (by simp [Tr.nref, Tr.nrefs, refK]), New.refl _ _ _⟩
theorem sigsZ (T : Tr) : ∀ N, SigZ T N ∧ SpecZ T N
  | 0 => ⟨fun s t p w hN ht => by have := ht.pos; omega, fun x t p w hN ht => by have := ht.pos; omega⟩
  | N + 1 => have ih := sigsZ T N; ⟨sigZ_step ih.1 ih.2, specZ_step ih.1⟩
theorem WkS.ends {T : Tr} {w w' : Wk} {c : Nat} (h : WkS T w w' c) (X : List Lk) : WkS T w { w' with X := X } c := ⟨h.1, h.2⟩
theorem modZ_step {T : Tr} {N : Nat} (ihm : ModZ T N) (ihd : DeclZ T N) : ModZ T (N + 1) := by
  intro s t p w hN ht hs hp hat
  cases ht with
  | path hx => rw [modW_path]; exact (refer_ws w hs hat rfl).eq (by simp [Tr.nref, Tr.nrefs, refK])
  | @app n a b m hx h1 =>
    simp only [Tr.cnt, Tr.cnts] at hN
    rw [modW_app]
    exact ((refer_ws (sp := [102]) w hs hat rfl).trans (ihm _ _ _ _ (by omega) h1 (hs.down 0) (down_ne p 0) (atI_down hat (by simp) h1.pos))).eq (by simp [Tr.nref, Tr.nrefs, refK])
  | @sealM n a b m g h1 h2 =>
    simp only [Tr.cnt, Tr.cnts] at hN
    rw [modW_seal]
    exact ((ihm _ _ _ w (by omega) h1 (hs.down 0) (down_ne p 0) (atI_down hat (by simp) h1.pos)).trans ((sigsZ T N).1 _ _ _ _ (by omega) h2 (hs.down 1) (down_ne p 1) (atI_down hat (i := 1) (by simp) h2.pos))).eq (by simp [Tr.nref, Tr.nrefs, refK])
  | @body n a b l hl =>
    simp only [Tr.cnt] at hN
    rw [modW_body]
    refine ((foldS_ws (T := T) (p := p) (f := declF N p) l 0 (w, ⟨s, []⟩) (hs.down 0) fun j h x hx => ?_).eq (by simp [Tr.nref, refK])).ends _
    have hc := Tr.cnts_le l j h
    have hm := hl _ (List.getElem_mem h)
    rw [Nat.zero_add] at hx ⊢
    exact ihd x.2 l[j] (down p j) x.1 (by omega) hm hx (down_ne p j) (atI_down hat h hm.pos)
theorem declZ_step {T : Tr} {N : Nat} (ihm : ModZ T N) : DeclZ T (N + 1) := by
  intro x t p w hN ht hs hp hat
  have hb : t.kind ∈ K1 → BdS T p false := fun h => ⟨hp, _, hat, h⟩
  have it := typW_ws (T := T) N
  cases ht with
  | @val1 n a b e ha h1 =>
    simp only [Tr.cnt, Tr.cnts] at hN
    rw [declW_val1]
    exact ⟨(exprW_ws (T := T) N _ _ _ _ (by omega) h1 (hs.down 0) (down_ne p 0) (atI_down hat (by simp) h1.pos)).eq (by simp [Tr.nref, Tr.nrefs, refK]), (New.refl _ _ _).bind (hb (by simp [Tr.kind, K1]))⟩
  | @val2 n a b t e ha h1 h2 =>
    simp only [Tr.cnt, Tr.cnts] at hN
    rw [declW_val2]
    exact ⟨((it x.S t (down p 0) w (by omega) h1 (hs.down 0) (down_ne p 0) (atI_down hat (by simp) h1.pos)).trans (exprW_ws (T := T) N _ _ _ _ (by omega) h2 (hs.down 1) (down_ne p 1) (atI_down hat (i := 1) (by simp) h2.pos))).eq (by simp [Tr.nref, Tr.nrefs, refK]), (New.refl _ _ _).bind (hb (by simp [Tr.kind, K1]))⟩
  | @typ n a b t ha h1 =>
    simp only [Tr.cnt, Tr.cnts] at hN
    rw [declW_typ]
    exact ⟨(it _ _ _ _ (by omega) h1 (hs.down 0) (down_ne p 0) (atI_down hat (by simp) h1.pos)).eq (by simp [Tr.nref, Tr.nrefs, refK]), (New.refl _ _ _).bind (hb (by simp [Tr.kind, K1]))⟩
  | data h8 h1 => rw [declW_data]; exact dataZ (.inr rfl) hN h1 hs hp hat
  | @str n a b m ha h1 =>
    simp only [Tr.cnt, Tr.cnts] at hN
    rw [declW_str]
    exact ⟨(ihm _ _ _ _ (by omega) h1 (hs.down 0) (down_ne p 0) (atI_down hat (by simp) h1.pos)).eq (by simp [Tr.nref, Tr.nrefs, refK]), (New.refl _ _ _).bind (hb (by simp [Tr.kind, K1]))⟩
  | @sg n a b g ha h1 =>
    simp only [Tr.cnt, Tr.cnts] at hN
    rw [declW_sg]
    exact ⟨((sigsZ T N).1 _ _ _ _ (by omega) h1 (hs.down 0) (down_ne p 0) (atI_down hat (by simp) h1.pos)).eq (by simp [Tr.nref, Tr.nrefs, refK]), (New.refl _ _ _).bind (hb (by simp [Tr.kind, K1]))⟩
  | @ftor n a b g m ha hb1 h1 h2 =>
    simp only [Tr.cnt, Tr.cnts] at hN
    rw [declW_ftor]
    exact ⟨(((sigsZ T N).1 _ _ _ w (by omega) h1 (hs.down 0) (down_ne p 0) (atI_down hat (by simp) h1.pos)).trans (ihm _ _ _ _ (by omega) h2 ((hs.down 1).bind (ltP_down p 1) (hb (by simp [Tr.kind, K1]))) (down_ne p 1) (atI_down hat (i := 1) (by simp) h2.pos))).eq (by simp [Tr.nref, Tr.nrefs, refK]), (New.refl _ _ _).bind (hb (by simp [Tr.kind, K1]))⟩
  | opn hx => rw [declW_opn]; exact ⟨(refer_ws w hs hat rfl).eq (by simp [Tr.nref, Tr.nrefs, refK]), New.bring ⟨hp, _, hat, by simp [Tr.kind, K2]⟩⟩
  | inc hx => rw [declW_inc]; exact ⟨(refer_ws w hs hat rfl).eq (by simp [Tr.nref, Tr.nrefs, refK]), New.bring ⟨hp, _, hat, by simp [Tr.kind, K2]⟩⟩
theorem modsZ (T : Tr) : ∀ N, ModZ T N ∧ DeclZ T N
  | 0 => ⟨fun s t p w hN ht => by have := ht.pos; omega, fun x t p w hN ht => by have := ht.pos; omega⟩
  | N + 1 => have ih := modsZ T N; ⟨modZ_step ih.1 ih.2, declZ_step ih.1⟩
theorem progW_ws {t : Tr} (h : isB t 7 = true) (he : (progW t.cnt t).E = 0) : (progW t.cnt t).L.length = t.nref ∧ ∀ k ∈ (progW t.cnt t).L, LkS t k := by
  obtain ⟨n, a, b, l, rfl, hl⟩ := pr_ok h
  obtain ⟨N, hN⟩ : ∃ N, (Tr.node 80 n a b l).cnt = N := ⟨_, rfl⟩
  rw [hN] at he ⊢
  have hc : Tr.cnts l ≤ N := by simp only [Tr.cnt] at hN; omega
  have q := foldS_ws (T := .node 80 n a b l) (p := []) (f := declF N []) l 0 (⟨[], [], 0⟩, ⟨[], []⟩) SS.nil (fun j h x hx => by
    have hcj := Tr.cnts_le l j h
    have hm := hl _ (List.getElem_mem h)
    rw [Nat.zero_add] at hx ⊢
    exact (modsZ _ N).2 x.2 l[j] (down [] j) x.1 (by omega) hm hx (down_ne [] j) (atI_down atI_nil h hm.pos))
  have hpw : ∃ X, progW N (.node 80 n a b l) = { (foldK (declF N []) 0 l (⟨[], [], 0⟩, ⟨[], []⟩)).1 with X := X } := ⟨_, rfl⟩
  obtain ⟨X, hX⟩ := hpw
  rw [hX] at he ⊢
  obtain ⟨q1, q2⟩ := q
  refine ⟨?_, fun k hk => (q2 k hk).resolve_left (by simp)⟩
  have := (q1 he).2
  simp only [List.length_nil, Nat.zero_add] at this
  simp only [this, Tr.nref]
  simp [refK]
end Go.Av
namespace Go.Av
open Go.Proofs
variable {W0 : World}
set_option maxRecDepth 10000
set_option maxHeartbeats 4000000
theorem sf14 {t u : Tr} {p : Path} {o : Own} {H : Hp} (hp : p.length ≤ 9223372036854775807) (h : t.atI p = some u) : SF Tryz.prog W0 14 [t.av, .sl 1 (ints p) o] H fun r H' => H' = H ∧ r = .tuple [u.av, .int .i64 0] := by
  cases t with
  | none => cases p <;> simp [Tr.atI] at h
  | node k n a b l =>
  simp only [Tr.av]
  refine SF.pureLe (sf_start [4, 5] 46 Tryz.func14 rfl rfl rfl (by decide) (by simp) ?_)
  repeat' first
    | refine aSq ?_ | refine aRt ?_ | refine aSk ?_ | refine aEx ?_ | refine aBl ?_ | refine tN ?_ | refine tR ?_ | refine tE ?_ | refine iR ?_
    | (refine rg 6 ?_
       refine tk 2 ?_
       first | (refine te (fun hb => ?_) (fun hb => ?_) <;> (try simp at hb) <;> try (exfalso; omega)) | (refine tk 1 ?_)
       all_goals (refine tk 8 ?_
                  first | (refine te (fun hb => ?_) (fun hb => ?_) <;> (try simp at hb) <;> try (exfalso; omega)) | (refine tk 1 ?_)
                  all_goals (refine tk 9 ?_
                             refine dn ?_)))
    | refine ru ?_
    | (refine awp_if rfl (fun hb => ?_) (fun hb => ?_) <;> (try simp at hb) <;> try (exfalso; omega))
    | refine inN ?_
  refine awp_loop_inv (fun q st => ∃ (i : Nat) (k n : Int) (a b : Str) (l : List Tr), q = p.length - i ∧ i ≤ p.length ∧ Tr.atI (.node k n a b l) (p.drop i) = some u ∧ Sub st ⟨46, [(0, .ptr [.int .i64 k, .int .i64 n, .str a, .str b, .sl 1 (Tr.avs l) .shut]), (10, .sl 1 (ints p) o), (11, .int .i64 p.length), (12, .int .i64 i)], H⟩) p.length
    ⟨0, k, n, a, b, l, by simp, by simp, h, sb⟩ ?_
  clear h
  rintro q st ⟨i, k, n, a, b, l, rfl, hi, h, hs2⟩
  refine awp_sub hs2 ?_
  clear hs2 st
  rcases Nat.lt_or_ge i p.length with hlt | hge
  · rw [List.drop_eq_getElem_cons hlt] at h
    simp only [Tr.atI] at h
    split at h
    · rename_i h0
      obtain ⟨m, hm⟩ : ∃ m : Nat, p[i] = (m : Int) := ⟨p[i].toNat, by omega⟩
      rw [hm, Int.toNat_natCast] at h
      split at h
      · rename_i v hv
        obtain ⟨hml, rfl⟩ := List.getElem?_eq_some_iff.1 hv
        cases hlm : l[m] with
        | none => rw [hlm] at h; cases hd : p.drop (i + 1) <;> rw [hd] at h <;> simp [Tr.atI] at h
        | node k' n' a' b' l' =>
          rw [hlm] at h
          have hav : l[m].av = .ptr [.int .i64 k', .int .i64 n', .str a', .str b', .sl 1 (Tr.avs l') .shut] := by rw [hlm]; simp only [Tr.av]
          repeat' first
            | refine aSq ?_ | refine aRt ?_ | refine aSk ?_ | refine aEx ?_ | refine aBl ?_ | refine tN ?_ | refine tR ?_ | refine tE ?_ | refine iR ?_
            | (refine rg 6 ?_
               refine aops_take 2 (mu := mu0) tab_ok (by simp (disch := omega) [hm, hav]; with_reducible rfl) ?_
               first | (refine aops_test (mu := mu0) tab_ok (by simp (disch := omega) [hm, hav]; with_reducible rfl) rfl (fun hb => ?_) (fun hb => ?_) <;> (try simp at hb) <;> try (exfalso; omega)) | (refine aops_take 1 (mu := mu0) tab_ok (by simp (disch := omega) [hm, hav]; with_reducible rfl) ?_)
               all_goals (refine aops_take 8 (mu := mu0) tab_ok (by simp (disch := omega) [hm, hav]; with_reducible rfl) ?_
                          first | (refine aops_test (mu := mu0) tab_ok (by simp (disch := omega) [hm, hav]; with_reducible rfl) rfl (fun hb => ?_) (fun hb => ?_) <;> (try simp at hb) <;> try (exfalso; omega)) | (refine aops_take 1 (mu := mu0) tab_ok (by simp (disch := omega) [hm, hav]; with_reducible rfl) ?_)
                          all_goals (refine aops_take 9 (mu := mu0) tab_ok (by simp (disch := omega) [hm, hav]; with_reducible rfl) ?_
                                     refine dn ?_)))
            | (refine awp_run (mu := mu0) tab_ok (by simp (disch := omega) [hm, hav]; with_reducible rfl) ?_)
            | (refine awp_if rfl (fun hb => ?_) (fun hb => ?_) <;> (try simp at hb) <;> try (exfalso; omega))
            | refine inN ?_
          exact ⟨p.length - (i + 1), by omega, i + 1, k', n', a', b', l', rfl, by omega, h, sb⟩
      · cases h
    · cases h
  · have hil : i = p.length := by omega
    subst hil
    simp only [List.drop_length, Tr.atI, Option.some.injEq] at h
    subst h
    repeat' first
      | refine aSq ?_ | refine aRt ?_ | refine aSk ?_ | refine aEx ?_ | refine aBl ?_ | refine tN ?_ | refine tR ?_ | refine tE ?_ | refine iR ?_
      | (refine rg 6 ?_
         refine tk 2 ?_
         first | (refine te (fun hb => ?_) (fun hb => ?_) <;> (try simp at hb) <;> try (exfalso; omega)) | (refine tk 1 ?_)
         all_goals (refine tk 8 ?_
                    first | (refine te (fun hb => ?_) (fun hb => ?_) <;> (try simp at hb) <;> try (exfalso; omega)) | (refine tk 1 ?_)
                    all_goals (refine tk 9 ?_
                               refine dn ?_)))
      | refine ru ?_
      | (refine awp_if rfl (fun hb => ?_) (fun hb => ?_) <;> (try simp at hb) <;> try (exfalso; omega))
      | refine inN ?_
    exact ⟨Gr.refl _, .tuple [(Tr.node k n a b l).av, .int .i64 0], by simp [Tr.av], rfl⟩
theorem sf16 {p q : Path} {o1 o2 : Own} {H : Hp} (hp : p.length ≤ 9223372036854775807) (hq : q.length ≤ 9223372036854775807) : SF Tryz.prog W0 16 [.sl 1 (ints p) o1, .sl 1 (ints q) o2] H fun r H' => H' = H ∧ r = .bool (ltP p q) := by
  refine SF.pureLe (sf_start [4] 41 Tryz.func16 rfl rfl rfl (by decide) (by simp) ?_)
  repeat' first
    | refine aSq ?_ | refine aRt ?_ | refine aSk ?_ | refine aEx ?_ | refine aBl ?_ | refine tN ?_ | refine tR ?_ | refine tE ?_ | refine iR ?_
    | (refine rg 2 ?_
       refine tk 4 ?_
       first | (refine te (fun hb => ?_) (fun hb => ?_) <;> (try simp at hb) <;> try (exfalso; omega)) | (refine tk 1 ?_)
       all_goals (refine tk 5 ?_
                  refine dn ?_))
    | (refine dr 4 [(0, true), (1, true), (2, true), (3, true), (4, true), (5, true), (6, true), (7, true), (8, true)] [] ?_
       refine dl ?_)
    | (refine dr 5 [(0, true), (1, true), (2, true), (3, true), (4, true), (5, true), (6, true), (7, true), (8, true), (9, true)] [] ?_
       refine dl ?_)
    | refine ru ?_
    | (refine awp_if rfl (fun hb => ?_) (fun hb => ?_) <;> (try simp at hb) <;> try (exfalso; omega))
    | refine inN ?_
  refine awp_loop_inv (fun m st => ∃ (i : Nat), m = p.length - i ∧ i ≤ p.length ∧ i ≤ q.length ∧ ltP p q = ltP (p.drop i) (q.drop i) ∧ Sub st ⟨41, [(0, .sl 1 (ints p) o1), (1, .sl 1 (ints q) o2), (5, .int .i64 i)], H⟩) p.length
    ⟨0, by simp, by simp, by simp, rfl, sb⟩ ?_
  rintro m st ⟨i, rfl, hi, hi2, he, hs2⟩
  refine awp_sub hs2 ?_
  clear hs2 st
  rcases Nat.lt_or_ge i p.length with h1 | h1
  · rcases Nat.lt_or_ge i q.length with h2 | h2
    · have hd : ltP p q = if p[i] = q[i] then ltP (p.drop (i + 1)) (q.drop (i + 1)) else decide (p[i] < q[i]) := by
        rw [he, List.drop_eq_getElem_cons h1, List.drop_eq_getElem_cons h2]; rfl
      by_cases hpq : p[i] = q[i]
      · rw [if_pos hpq] at hd
        repeat' first
          | refine aSq ?_ | refine aRt ?_ | refine aSk ?_ | refine aEx ?_ | refine aBl ?_ | refine tN ?_ | refine tR ?_ | refine tE ?_ | refine iR ?_
          | (refine rg 2 ?_
             refine aops_take 4 (mu := mu0) tab_ok (by simp (disch := omega) [hpq]; with_reducible rfl) ?_
             first | (refine aops_test (mu := mu0) tab_ok (by simp (disch := omega) [hpq]; with_reducible rfl) rfl (fun hb => ?_) (fun hb => ?_) <;> (try simp at hb) <;> try (exfalso; omega)) | (refine aops_take 1 (mu := mu0) tab_ok (by simp (disch := omega) [hpq]; with_reducible rfl) ?_)
             all_goals (refine aops_take 5 (mu := mu0) tab_ok (by simp (disch := omega) [hpq]; with_reducible rfl) ?_
                        refine dn ?_))
          | (refine dr 4 [(0, true), (1, true), (2, true), (3, true), (4, true), (5, true), (6, true), (7, true), (8, true)] [] ?_
             refine adr_all rfl (by decide +kernel) (by simp (disch := omega) [hpq]; with_reducible rfl) ?_)
          | (refine dr 5 [(0, true), (1, true), (2, true), (3, true), (4, true), (5, true), (6, true), (7, true), (8, true), (9, true)] [] ?_
             refine adr_all rfl (by decide +kernel) (by simp (disch := omega) [hpq]; with_reducible rfl) ?_)
          | (refine awp_run (mu := mu0) tab_ok (by simp (disch := omega) [hpq]; with_reducible rfl) ?_)
          | (refine awp_if rfl (fun hb => ?_) (fun hb => ?_) <;> (try simp at hb) <;> try (exfalso; omega))
          | refine inN ?_
        exact ⟨p.length - (i + 1), by omega, i + 1, rfl, by omega, by omega, hd, sb⟩
      · rw [if_neg hpq] at hd
        repeat' first
          | refine aSq ?_ | refine aRt ?_ | refine aSk ?_ | refine aEx ?_ | refine aBl ?_ | refine tN ?_ | refine tR ?_ | refine tE ?_ | refine iR ?_
          | (refine rg 2 ?_
             refine tk 4 ?_
             first | (refine te (fun hb => ?_) (fun hb => ?_) <;> (try simp at hb) <;> try (exfalso; omega)) | (refine tk 1 ?_)
             all_goals (refine tk 5 ?_
                        refine dn ?_))
          | (refine dr 4 [(0, true), (1, true), (2, true), (3, true), (4, true), (5, true), (6, true), (7, true), (8, true)] [] ?_
             refine dl ?_)
          | (refine dr 5 [(0, true), (1, true), (2, true), (3, true), (4, true), (5, true), (6, true), (7, true), (8, true), (9, true)] [] ?_
             refine dl ?_)
          | refine ru ?_
          | (refine awp_if rfl (fun hb => ?_) (fun hb => ?_) <;> (try simp at hb) <;> try (exfalso; omega))
          | refine inN ?_
        exact ⟨Gr.refl _, .bool (decide (p[i] < q[i])), by simp, by rw [hd]⟩
    · have hd : ltP p q = false := by
        rw [he, List.drop_of_length_le h2, List.drop_eq_getElem_cons h1]; rfl
      repeat' first
        | refine aSq ?_ | refine aRt ?_ | refine aSk ?_ | refine aEx ?_ | refine aBl ?_ | refine tN ?_ | refine tR ?_ | refine tE ?_ | refine iR ?_
        | (refine rg 2 ?_
           refine tk 4 ?_
           first | (refine te (fun hb => ?_) (fun hb => ?_) <;> (try simp at hb) <;> try (exfalso; omega)) | (refine tk 1 ?_)
           all_goals (refine tk 5 ?_
                      refine dn ?_))
        | (refine dr 4 [(0, true), (1, true), (2, true), (3, true), (4, true), (5, true), (6, true), (7, true), (8, true)] [] ?_
           refine dl ?_)
        | (refine dr 5 [(0, true), (1, true), (2, true), (3, true), (4, true), (5, true), (6, true), (7, true), (8, true), (9, true)] [] ?_
           refine dl ?_)
        | refine ru ?_
        | (refine awp_if rfl (fun hb => ?_) (fun hb => ?_) <;> (try simp at hb) <;> try (exfalso; omega))
        | refine inN ?_
      exact ⟨Gr.refl _, .bool (decide (p.length < q.length)), by simp, by rw [hd]; simp; omega⟩
  · have hd : ltP p q = decide (p.length < q.length) := by
      rw [he, List.drop_of_length_le h1]
      rcases Nat.lt_or_ge i q.length with h2 | h2
      · rw [List.drop_eq_getElem_cons h2]; simp [ltP]; omega
      · rw [List.drop_of_length_le h2]; simp [ltP]; omega
    repeat' first
      | refine aSq ?_ | refine aRt ?_ | refine aSk ?_ | refine aEx ?_ | refine aBl ?_ | refine tN ?_ | refine tR ?_ | refine tE ?_ | refine iR ?_
      | (refine rg 2 ?_
         refine tk 4 ?_
         first | (refine te (fun hb => ?_) (fun hb => ?_) <;> (try simp at hb) <;> try (exfalso; omega)) | (refine tk 1 ?_)
         all_goals (refine tk 5 ?_
                    refine dn ?_))
      | (refine dr 4 [(0, true), (1, true), (2, true), (3, true), (4, true), (5, true), (6, true), (7, true), (8, true)] [] ?_
         refine dl ?_)
      | (refine dr 5 [(0, true), (1, true), (2, true), (3, true), (4, true), (5, true), (6, true), (7, true), (8, true), (9, true)] [] ?_
         refine dl ?_)
      | refine ru ?_
      | (refine awp_if rfl (fun hb => ?_) (fun hb => ?_) <;> (try simp at hb) <;> try (exfalso; omega))
      | refine inN ?_
    exact ⟨Gr.refl _, .bool (decide (p.length < q.length)), by simp, by rw [hd]⟩
theorem set_objs {H : Hp} {r : Nat} {v : AV} (h : H.objs[r]? = some (.cells [v])) : H.objs = H.objs.set r (.cells [v]) := (set_same h).symm
theorem app_sl {H0 H : Hp} {p : List Int} {v : AV} (h : App H0 H 1 (ints p) v) (hne : p ≠ []) : ∃ o, v = .sl 1 (ints p) o := by
  rcases h.is with ⟨_, e⟩ | e | ⟨k, _, e, _⟩
  · exact absurd ((ints_eq_nil p).1 e) hne
  · exact ⟨_, e⟩
  · exact ⟨_, e⟩
theorem aw_val {ops : Array Oper} {late : List Nat} {H0 : Hp} {Q : Exit → St → Prop} {i n d : Nat} {listed : Array Bool} {st : St} {o : Oper} {c : Call} {x : Operand} {f : FuncId} {caps args : List AV} (hr : Region.ready .any ops listed = [i]) (hl : late.contains i = true) (hi : ops[i]? = some o) (ho : o.op = .call c) (hc : c.callee = .value x) (hg : o.guard = none) (hd : o.dst = some d)
    (hf : st.eval x = .fn f caps) (hen : enters Tryz.prog f) (ha : c.args.toList.map st.eval ++ caps = args)
    (h : SF Tryz.prog W0 f args st.H fun r H' => AW Tryz.prog W0 ops late H0 Q (listed.setIfInBounds i true) n (St.put { st with H := H' } (some d) r)) : AW Tryz.prog W0 ops late H0 Q listed (n + 1) st := by
  refine aw_one hi hr hl (aeff_call (by simp [wantA, hg]) ho hc hf hen ?_)
  rw [ha, hd]
  exact h
def PathsS (W0 : World) (K : Int) (H0 : Hp) (ra rt : Nat) (N : Nat) : Prop := ∀ (t : Tr) (H : Hp) (es : List (List AV)) (v : AV) (p : List Int) (o : Own), t.cnt ≤ N → es.length + t.cnt ≤ 67108864 → t.slim → p.length + t.cnt ≤ 67108863 →
    Gr H0 H → H.objs[ra]? = some (.cells [.fn 24 [.ptr [.int .i64 K], .ref rt 0, .ref ra 0]]) → H.objs[rt]? = some (.cells [v]) → App H0 H 1 es v →
    SF Tryz.prog W0 24 [t.av, .sl 1 (ints p) o, .ptr [.int .i64 K], .ref rt 0, .ref ra 0] H fun r H' => ∃ es' v', r = .tuple [] ∧ H'.objs = H.objs.set rt (.cells [v']) ∧ Gr H0 H' ∧ App H0 H' 1 es' v' ∧ es'.length = es.length + t.nk K
theorem nks_take (K : Int) (l : List Tr) (i : Nat) (h : i < l.length) : Tr.nks K (l.take (i + 1)) = Tr.nks K (l.take i) + (l[i]).nk K := by
  induction l generalizing i with
  | nil => simp at h
  | cons t l ih =>
    cases i with
    | zero => simp [Tr.nks]
    | succ i => simp only [List.take_succ_cons, Tr.nks, List.getElem_cons_succ]; rw [ih i (by simpa using h)]; omega
mutual
theorem nk_le (K : Int) : ∀ t : Tr, t.nk K ≤ t.cnt
  | .none => Nat.le_refl _
  | .node k n a b l => by have := nks_le K l; simp only [Tr.nk, Tr.cnt]; split <;> omega
theorem nks_le (K : Int) : ∀ l : List Tr, Tr.nks K l ≤ Tr.cnts l
  | [] => Nat.le_refl _
  | t :: l => by have := nk_le K t; have := nks_le K l; simp only [Tr.nks, Tr.cnts]; omega
end
theorem sf24 {K : Int} (hK : 0 ≤ K) (H0 : Hp) (ra rt : Nat) (hra : H0.objs.length ≤ ra) (hrt : H0.objs.length ≤ rt) (hne : ra ≠ rt) : ∀ N, PathsS W0 K H0 ra rt N := by
  intro N
  induction N with
  | zero =>
    intro t H es v p o hN hc hs hp hg0 ha ht hap
    cases t with
    | node k n a b l => simp [Tr.cnt] at hN
    | none =>
      simp only [Tr.av]
      refine sf_start [] 49 Tryz.func24 rfl rfl rfl (by decide) (by simp) ?_
      repeat' first
        | refine aSq ?_ | refine aRt ?_ | refine aSk ?_ | refine aEx ?_ | refine aBl ?_ | refine tN ?_ | refine tR ?_ | refine tE ?_ | refine iR ?_
        | (refine dr 1 [(0, true), (1, true), (2, true), (3, true), (4, true), (5, true), (6, true), (7, true), (8, true), (9, true)] [] ?_
           refine da 2 fun _ => ?_
           first | (refine de (fun hb => ?_) (fun hb => ?_) <;> (try simp at hb) <;> try (exfalso; omega)) | (refine da 1 fun _ => ?_)
           all_goals (refine dl ?_))
        | (refine dr 2 [(0, true), (1, true), (2, false), (3, false), (4, false), (5, false)] [4, 5] ?_
           refine da 2 fun _ => ?_
           refine df en25 ?_
           refine SF.then (sf25 ..) ?_
           refine ⟨.inr rfl, ?_⟩
           refine da 1 fun _ => ?_
           refine dx ?_)
        | (refine dr 6 [(0, true), (1, true), (2, true), (3, true), (4, true), (5, true), (6, true), (7, true), (8, true), (9, false), (10, false), (11, false)] [10, 11] ?_
           first | (refine dh 1 ?_) | (refine da 1 fun _ => ?_)
           refine dh 9 ?_
           refine dz 1 ?_
           refine adr_val rfl rfl rfl rfl rfl rfl (by assumption) (by simp; rfl) ?_
           refine SF.then (sfv ..) ?_
           refine ⟨.inl rfl, ?_⟩
           refine adr_nil ?_)
        | refine ru ?_
        | (refine awp_if rfl (fun hb => ?_) (fun hb => ?_) <;> (try simp at hb) <;> try (exfalso; omega))
        | refine inN ?_
      exact ⟨es, v, rfl, set_objs ht, hg0, hap, by simp [Tr.nk]⟩
  | succ N ih =>
    intro t H es0 v0 p o hN hc hs hp hg0 ha ht hap
    cases t with
    | none =>
      simp only [Tr.av]
      refine sf_start [] 49 Tryz.func24 rfl rfl rfl (by decide) (by simp) ?_
      repeat' first
        | refine aSq ?_ | refine aRt ?_ | refine aSk ?_ | refine aEx ?_ | refine aBl ?_ | refine tN ?_ | refine tR ?_ | refine tE ?_ | refine iR ?_
        | (refine dr 1 [(0, true), (1, true), (2, true), (3, true), (4, true), (5, true), (6, true), (7, true), (8, true), (9, true)] [] ?_
           refine da 2 fun _ => ?_
           first | (refine de (fun hb => ?_) (fun hb => ?_) <;> (try simp at hb) <;> try (exfalso; omega)) | (refine da 1 fun _ => ?_)
           all_goals (refine dl ?_))
        | (refine dr 2 [(0, true), (1, true), (2, false), (3, false), (4, false), (5, false)] [4, 5] ?_
           refine da 2 fun _ => ?_
           refine df en25 ?_
           refine SF.then (sf25 ..) ?_
           refine ⟨.inr rfl, ?_⟩
           refine da 1 fun _ => ?_
           refine dx ?_)
        | (refine dr 6 [(0, true), (1, true), (2, true), (3, true), (4, true), (5, true), (6, true), (7, true), (8, true), (9, false), (10, false), (11, false)] [10, 11] ?_
           first | (refine dh 1 ?_) | (refine da 1 fun _ => ?_)
           refine dh 9 ?_
           refine dz 1 ?_
           refine adr_val rfl rfl rfl rfl rfl rfl (by assumption) (by simp; rfl) ?_
           refine SF.then (sfv ..) ?_
           refine ⟨.inl rfl, ?_⟩
           refine adr_nil ?_)
        | refine ru ?_
        | (refine awp_if rfl (fun hb => ?_) (fun hb => ?_) <;> (try simp at hb) <;> try (exfalso; omega))
        | refine inN ?_
      exact ⟨es0, v0, rfl, set_objs ht, hg0, hap, by simp [Tr.nk]⟩
    | node k n a b l =>
      simp only [Tr.av]
      simp only [Tr.cnt] at hN hc hp
      simp only [Tr.slim] at hs
      have hs1 := hs.1
      refine sf_start [] 49 Tryz.func24 rfl rfl rfl (by decide) (by simp) ?_
      repeat' first
        | (refine cutIf 1 (fun s' => ∃ (es : List (List AV)) (v : AV) (Hc : Hp), es.length = es0.length + (if k = K then 1 else 0) ∧ Hc.objs = H.objs.set rt (.cells [v]) ∧ Gr H0 Hc ∧ App H0 Hc 1 es v ∧ Sub s' ⟨49, [(0, .ptr [.int .i64 k, .int .i64 n, .str a, .str b, .sl 1 (Tr.avs l) .shut]), (1, .sl 1 (ints p) o), (4, .ref ra 0)], Hc⟩) (aSq ?_) (fun s' hs' => ?_))
        | refine aSq ?_ | refine aRt ?_ | refine aSk ?_ | refine aEx ?_ | refine aBl ?_ | refine tN ?_ | refine tR ?_ | refine tE ?_ | refine iR ?_
        | (refine dr 1 [(0, true), (1, true), (2, true), (3, true), (4, true), (5, true), (6, true), (7, true), (8, true), (9, true)] [] ?_
           refine da 2 fun _ => ?_
           first | (refine de (fun hb => ?_) (fun hb => ?_) <;> (try simp at hb) <;> try (exfalso; omega)) | (refine da 1 fun _ => ?_)
           all_goals (refine dl ?_))
        | (refine dr 2 [(0, true), (1, true), (2, false), (3, false), (4, false), (5, false)] [4, 5] ?_
           refine da 2 (fun _ => ?_) (h := by simp (disch := omega) [ht]; with_reducible rfl)
           refine df en25 ?_
           refine SF.then (sf25 (by omega)) ?_
           refine ⟨.inr rfl, ?_⟩
           refine da 1 fun _ => ?_
           obtain ⟨v', H2, e2, a5, g5, o5⟩ := hap.append (T := tab) hg0 (x := .sl 1 [[.sl 1 (ints p) .shut]] .capped) (fs := [[.sl 1 (ints p) .shut]]) (t := 34) (e := 33) tab34 tab33 rfl (by decide) (by simp) (by simp) (by simp; omega)
           refine dx ?_ (h := by simp [e2, o5, ht, a5.cells, a5.okc]; with_reducible rfl))
        | (fail)
        | refine ru ?_
        | (refine awp_if rfl (fun hb => ?_) (fun hb => ?_) <;> (try simp at hb) <;> try (exfalso; omega))
        | refine inN ?_
      · exact ⟨rfl, _, v', ⟨H.objs.set rt (.cells [v']), H2.hi⟩, by simp [‹k = K›], rfl, ⟨by simp only; rw [List.take_set_of_le hrt]; exact hg0.objs, g5.hi⟩, a5.same rfl, sb⟩
      · exact ⟨rfl, es0, v0, H, by simp [‹¬k = K›], set_objs ht, hg0, hap, sb⟩
      obtain ⟨es1, v1, H1, hl1, ho1, hg1, a1, hs'⟩ := hs'
      refine awp_sub hs' ?_
      clear hs' s'
      repeat' first
        | refine aSq ?_ | refine aRt ?_ | refine aSk ?_ | refine aEx ?_ | refine aBl ?_ | refine tN ?_ | refine tR ?_ | refine tE ?_ | refine iR ?_
        | (refine dr 1 [(0, true), (1, true), (2, true), (3, true), (4, true), (5, true), (6, true), (7, true), (8, true), (9, true)] [] ?_
           refine da 2 fun _ => ?_
           first | (refine de (fun hb => ?_) (fun hb => ?_) <;> (try simp at hb) <;> try (exfalso; omega)) | (refine da 1 fun _ => ?_)
           all_goals (refine dl ?_))
        | (refine dr 2 [(0, true), (1, true), (2, false), (3, false), (4, false), (5, false)] [4, 5] ?_
           refine da 2 fun _ => ?_
           refine df en25 ?_
           refine SF.then (sf25 ..) ?_
           refine ⟨.inr rfl, ?_⟩
           refine da 1 fun _ => ?_
           refine dx ?_)
        | (fail)
        | refine ru ?_
        | (refine awp_if rfl (fun hb => ?_) (fun hb => ?_) <;> (try simp at hb) <;> try (exfalso; omega))
        | refine inN ?_
      refine awp_loop_inv (fun m st => ∃ (i : Nat) (es : List (List AV)) (v : AV) (Hc : Hp), m = l.length - i ∧ i ≤ l.length ∧ es.length = es1.length + Tr.nks K (l.take i) ∧ Hc.objs = H.objs.set rt (.cells [v]) ∧ Gr H0 Hc ∧ App H0 Hc 1 es v ∧
        Sub st ⟨49, [(1, .sl 1 (ints p) o), (4, .ref ra 0), (29, .sl 1 (Tr.avs l) .shut), (30, .int .i64 l.length), (31, .int .i64 i)], Hc⟩) l.length
        ⟨0, es1, v1, H1, by simp, by simp, by simp [Tr.nks], ho1, hg1, a1, sb⟩ ?_
      clear ho1 hg1 a1
      rintro m st ⟨i, es, v, Hc, rfl, hi, hel, hob, hg, a1, hs2⟩
      refine awp_sub hs2 ?_
      clear hs2 st
      have hca : Hc.objs[ra]? = some (.cells [.fn 24 [.ptr [.int .i64 K], .ref rt 0, .ref ra 0]]) := by rw [hob, List.getElem?_set_ne (Ne.symm hne)]; exact ha
      have hct : Hc.objs[rt]? = some (.cells [v]) := by rw [hob, List.getElem?_set_self (obj_lt ht)]
      have hk1 : (if k = K then 1 else 0) ≤ 1 := by split <;> omega
      repeat' first
        | refine aSq ?_ | refine aRt ?_ | refine aSk ?_ | refine aEx ?_ | refine aBl ?_ | refine tN ?_ | refine tR ?_ | refine tE ?_ | refine iR ?_
        | (refine dr 1 [(0, true), (1, true), (2, true), (3, true), (4, true), (5, true), (6, true), (7, true), (8, true), (9, true)] [] ?_
           refine da 2 fun _ => ?_
           first | (refine de (fun hb => ?_) (fun hb => ?_) <;> (try simp at hb) <;> try (exfalso; omega)) | (refine da 1 fun _ => ?_)
           all_goals (refine dl ?_))
        | (refine dr 2 [(0, true), (1, true), (2, false), (3, false), (4, false), (5, false)] [4, 5] ?_
           refine da 2 fun _ => ?_
           refine df en25 ?_
           refine SF.then (sf25 ..) ?_
           refine ⟨.inr rfl, ?_⟩
           refine da 1 fun _ => ?_
           refine dx ?_)
        | (fail)
        | refine ru ?_
        | (refine awp_if rfl (fun hb => ?_) (fun hb => ?_) <;> (try simp at hb) <;> try (exfalso; omega))
        | refine inN ?_
      · have hlti : i < l.length := by assumption
        have q1 := nks_take K l i hlti
        have q2 := Tr.cnts_take l i hlti
        have q3 := Tr.cnts_take_le l (i + 1)
        have q4 := nks_le K (l.take i)
        have q5 := Tr.cnts_le l i hlti
        obtain ⟨va, H2, e2, a5, g5, o5, k5⟩ := (App.capped H0 Hc 1 (ints p)).appendK (T := tab) hg (x := .sl 1 [[.int .i64 i]] .capped) (fs := [[.int .i64 i]]) (t := 33) (e := 3) tab33 tab3 rfl (by decide) (by simp) (by simp) (by simp; omega)
        have hca2 : H2.objs[ra]? = some (.cells [.fn 24 [.ptr [.int .i64 K], .ref rt 0, .ref ra 0]]) := by rw [o5]; exact hca
        have a6 : App H0 H2 1 (ints (p ++ [(i : Int)])) va := by rw [ints_append]; exact a5
        obtain ⟨o', rfl⟩ := app_sl a6 (by simp)
        have h11 := ih l[i] H2 es v (p ++ [(i : Int)]) o' (by omega) (by omega) (Tr.slims_get _ _ _ hs.2) (by simp; omega) g5 hca2 (by rw [o5]; exact hct) (k5 1 es v a1 (Parted.capped _ _ _)).1
        refine AWP.mono (Q := fun e st => e = .normal ∧ ∃ (es' : List (List AV)) (v' : AV) (H3 : Hp), H3.objs = H2.objs.set rt (.cells [v']) ∧ Gr H0 H3 ∧ App H0 H3 1 es' v' ∧ es'.length = es.length + (l[i]).nk K ∧ Sub st ⟨49, [(1, .sl 1 (ints p) o), (4, .ref ra 0), (29, .sl 1 (Tr.avs l) .shut), (30, .int .i64 l.length), (31, .int .i64 i)], H3⟩) ?_ ?_
        · rintro e st ⟨rfl, es', v', H3, ho3, hg3, a7, hl7, hs3⟩
          refine inN (tN (awp_sub hs3 ?_))
          clear hs3 st
          repeat' first
            | refine aSq ?_ | refine aRt ?_ | refine aSk ?_ | refine aEx ?_ | refine aBl ?_ | refine tN ?_ | refine tR ?_ | refine tE ?_ | refine iR ?_
            | (refine dr 1 [(0, true), (1, true), (2, true), (3, true), (4, true), (5, true), (6, true), (7, true), (8, true), (9, true)] [] ?_
               refine da 2 fun _ => ?_
               first | (refine de (fun hb => ?_) (fun hb => ?_) <;> (try simp at hb) <;> try (exfalso; omega)) | (refine da 1 fun _ => ?_)
               all_goals (refine dl ?_))
            | (refine dr 2 [(0, true), (1, true), (2, false), (3, false), (4, false), (5, false)] [4, 5] ?_
               refine da 2 fun _ => ?_
               refine df en25 ?_
               refine SF.then (sf25 ..) ?_
               refine ⟨.inr rfl, ?_⟩
               refine da 1 fun _ => ?_
               refine dx ?_)
            | (fail)
            | refine ru ?_
            | (refine awp_if rfl (fun hb => ?_) (fun hb => ?_) <;> (try simp at hb) <;> try (exfalso; omega))
            | refine inN ?_
          exact ⟨l.length - (i + 1), by omega, i + 1, es', v', H3, rfl, by omega, by omega, by rw [ho3, o5, hob, set_twice], hg3, a7, sb⟩
        refine awp_drawK (id := 6) (mu := mu0) [(1, true), (2, true), (3, true), (4, true), (5, true), (6, true), (7, true), (8, true)] [0, 9, 10, 11] tab_ok mixedT (by decide +kernel) 4 rfl ?_
        refine dh 8 ?_
        refine adr_nil ?_
        refine ag_two (i := 0) (j := 9) (by decide +kernel) (by decide) (goes_run (mu := mu0) tab_ok (by simp [hca, hca2]; with_reducible rfl)) (goes_run (mu := mu0) tab_ok (by simp; with_reducible rfl)) ?_ ?_
        · refine ag_one (i := 9) (by decide +kernel) (by decide) (goes_run (mu := mu0) tab_ok (by simp; with_reducible rfl)) ?_
          refine ag_one (i := 10) (by decide +kernel) (by decide) (goes_run (mu := mu0) tab_ok (by simp [e2]; with_reducible rfl)) ?_
          refine aw_val (i := 11) (by decide +kernel) (by decide) rfl rfl rfl rfl rfl rfl en24 (by simp; rfl) ?_
          refine h11.mono ?_
          rintro r H3 ⟨es', v', rfl, ho3, hg3, a7, hl7⟩
          exact aw_done ⟨rfl, es', v', H3, ho3, hg3, a7, hl7, sb⟩ (by decide +kernel)
        · refine ag_two (i := 0) (j := 10) (by decide +kernel) (by decide) (goes_run (mu := mu0) tab_ok (by simp [hca, hca2]; with_reducible rfl)) (goes_run (mu := mu0) tab_ok (by simp [e2]; with_reducible rfl)) ?_ ?_
          · refine ag_one (i := 10) (by decide +kernel) (by decide) (goes_run (mu := mu0) tab_ok (by simp [e2]; with_reducible rfl)) ?_
            refine aw_val (i := 11) (by decide +kernel) (by decide) rfl rfl rfl rfl rfl rfl en24 (by simp; rfl) ?_
            refine h11.mono ?_
            rintro r H3 ⟨es', v', rfl, ho3, hg3, a7, hl7⟩
            exact aw_done ⟨rfl, es', v', H3, ho3, hg3, a7, hl7, sb⟩ (by decide +kernel)
          · refine ag_one (i := 0) (by decide +kernel) (by decide) (goes_run (mu := mu0) tab_ok (by simp [hca, hca2]; with_reducible rfl)) ?_
            refine aw_val (i := 11) (by decide +kernel) (by decide) rfl rfl rfl rfl rfl rfl en24 (by simp; rfl) ?_
            refine h11.mono ?_
            rintro r H3 ⟨es', v', rfl, ho3, hg3, a7, hl7⟩
            exact aw_done ⟨rfl, es', v', H3, ho3, hg3, a7, hl7, sb⟩ (by decide +kernel)
      · have hil : i = l.length := by omega
        subst hil
        rw [List.take_length] at hel
        exact ⟨es, v, rfl, hob, hg, a1, by simp only [Tr.nk]; omega⟩
theorem sf13 {t : Tr} {K : Int} {H : Hp} (hK : 0 ≤ K) (hc : t.cnt ≤ 60000000) (hs : t.slim) : SF Tryz.prog W0 13 [t.av, .int .i64 K] H fun r H' => H' = H ∧ ∃ es : List (List AV), r = .sl 1 es .shut ∧ es.length = t.nk K := by
  refine SF.pureLe (sf_start [4] 12 Tryz.func13 rfl rfl rfl (by decide) (by simp) ?_)
  repeat' first
    | refine aSq ?_ | refine aRt ?_ | refine aSk ?_ | refine aEx ?_ | refine aBl ?_ | refine tN ?_ | refine tR ?_ | refine tE ?_ | refine iR ?_
    | (refine rg 4 ?_
       refine tk 2 ?_
       refine aops_val rfl rfl rfl rfl rfl en24 (by simp; rfl) ?_
       refine (SF.args (.cons (.refl _) (.cons (.nilShut 1) (LeL.refl _))) (sf24 (W0 := W0) hK H (H.objs.length + 1) H.objs.length (by omega) (by omega) (by omega) t.cnt t _ [] .slnil [] .shut (Nat.le_refl _) (by simp; omega) hs (by simp; omega) ⟨by simp, by simp⟩ (by simp) (by simp) (App.slnil _ _ _))).mono ?_
       rintro r H1 ⟨es', v', rfl, ho1, hg1, a1, hl1⟩
       have hct : H1.objs[H.objs.length]? = some (.cells [v']) := by rw [ho1]; simp
       refine dn ?_)
    | (refine awp_run (id := 5) (mu := mu0) tab_ok (by simp [hct]; with_reducible rfl) ?_)
    | refine ru ?_
    | (refine awp_if rfl (fun hb => ?_) (fun hb => ?_) <;> (try simp at hb) <;> try (exfalso; omega))
    | refine inN ?_
  have q := a1.le'
  exact ⟨hg1, _, q, _, rfl, by rw [clnLL_length, hl1]; simp⟩
end Go.Av
namespace Go.Av
open Go.RowKit (Below)
section
variable {P : Program} {W0 : World}
theorem SF.anywhere {f : FuncId} {args : List AV} {H : Hp} {r : AV} (hr : cln 0 0 r = r) (hargs : ∀ g g' w (vs : List Value), AR g w args vs → AR g' w args vs)
    (h : ∀ W, SF P W f args ⟨[], []⟩ fun x _ => x = r) : SF P W0 f args H fun x H' => H' = H ∧ x = r := by
  intro g w vs inv har
  have i0 : WInv w ⟨fun _ => 0, fun _ => false, fun _ => none, fun _ _ => none⟩ ⟨[], []⟩ w :=
    ⟨fun _ _ => rfl, Nat.le_refl _, rfl, rfl, rfl, fun _ _ => rfl, fun _ _ => rfl, fun b hb => (by cases hb), fun r b hb => (by cases hb), fun _ _ => rfl, fun _ _ _ hb => (by cases hb), fun r o ho => (by simp at ho),
      fun _ _ _ _ hv => (by cases hv), fun _ _ _ => rfl, fun t m n hm => (by simp at hm), fun t n hn => (by simp at hn), fun t t' n n' b x x' hn => (by simp at hn)⟩
  refine (h w _ w vs i0 (hargs g _ w _ har)).mono ?_
  rintro e w' ⟨v, g', x, H0, rfl, rfl, ext, i, hv⟩
  have vc := VR.cut (n := 0) (m := 0) x v hv
  rw [hr] at vc
  have hb : Below w.heap.size w w' := Below.of i
  obtain ⟨ib, eb⟩ := inv.below hb
  obtain ⟨g2, hg2⟩ : ∃ g2 : Gh, g2 = ⟨fun b => if b < w.heap.size then g.pub b else g'.pub b, fun b => if b < w.heap.size then g.fro b else g'.fro b, g.loc, g.ver⟩ := ⟨_, rfl⟩
  have p1 : ∀ b, b < w.heap.size → g2.pub b = g.pub b := fun b hb => by rw [hg2]; simp only [if_pos hb]
  have p2 : ∀ b, w.heap.size ≤ b → g2.pub b = g'.pub b := fun b hb => by rw [hg2]; simp only [if_neg (Nat.not_lt.2 hb)]
  have f1 : ∀ b, b < w.heap.size → g2.fro b = g.fro b := fun b hb => by rw [hg2]; simp only [if_pos hb]
  have f2 : ∀ b, w.heap.size ≤ b → g2.fro b = g'.fro b := fun b hb => by rw [hg2]; simp only [if_neg (Nat.not_lt.2 hb)]
  have l1 : g2.loc = g.loc := by rw [hg2]
  have v1 : g2.ver = g.ver := by rw [hg2]
  clear hg2
  have e1 : Ext (g'.cut 0 0) w' g2 w' := by
    refine ⟨Nat.le_refl _, fun b => ?_, fun _ _ _ _ h => h, fun b hb => ?_, fun _ _ => rfl, fun r b hb => ?_, fun t n x hx => ?_⟩
    · rcases Nat.lt_or_ge b w.heap.size with q | q
      · have : (g'.cut 0 0).pub b = 0 := i.pubOld b q
        omega
      · rw [p2 b q]; exact Nat.le_refl _
    · have hb' : g'.fro b = true := hb
      rw [f2 b (i.fro b hb').1]; exact hb'
    · simp [Gh.cut] at hb
    · simp [Gh.cut] at hx
  have ew : ∀ b, g.pub b ≤ g2.pub b := fun b => by
    rcases Nat.lt_or_ge b w.heap.size with q | q
    · rw [p1 b q]; exact Nat.le_refl _
    · rw [inv.pubNew b q]; exact Nat.zero_le _
  have fw : ∀ b, g.fro b = true → g2.fro b = true := fun b hb => by rw [f1 b (inv.fro b hb).2.1]; exact hb
  have e2 : Ext g w g2 w' := ⟨eb.size, ew, eb.cell, fw, eb.froz, fun r b hb => by rw [l1]; exact hb, fun t n x hx => by rw [v1]; exact hx⟩
  have e3 : Ext g w' g2 w' := ⟨Nat.le_refl _, ew, fun _ _ _ _ h => h, fw, fun _ _ => rfl, fun r b hb => by rw [l1]; exact hb, fun t n x hx => by rw [v1]; exact hx⟩
  have i2 : WInv W0 g2 H w' := by
    refine ⟨ib.base, ib.size, ib.os, ib.out, ib.tape, fun b hb => ?_, fun b hb => ?_, fun b hb => ?_, by rw [l1]; exact ib.locIn, by rw [l1]; exact ib.locNew, by rw [l1]; exact ib.inj, fun r o ho => ?_, by rw [v1]; exact ib.verIn, by rw [v1]; exact ib.verNew, by rw [v1]; exact ib.verHi, fun t n hn => ?_, by rw [v1]; exact ib.tokInj⟩
    · rw [p1 b (Nat.lt_of_lt_of_le hb inv.size)]; exact inv.pubOld b hb
    · rw [p2 b (Nat.le_trans eb.size hb)]; exact i.pubNew b hb
    · rcases Nat.lt_or_ge b w.heap.size with q | q
      · rw [f1 b q] at hb; exact ib.fro b hb
      · rw [f2 b q] at hb
        obtain ⟨h1, h2, h3⟩ := i.fro b hb
        exact ⟨Nat.le_trans inv.size h1, h2, h3⟩
    · refine (ib.obj r o ho).keep e3 fun b hl => ?_
      have hlt := (inv.locIn r b hl).2
      exact ⟨rfl, fun hz => (p1 b hlt).trans hz, fun hz => (f1 b hlt).trans hz⟩
    · refine (ib.tok t n hn).keep e3 fun b x hx => ?_
      have hlt := (inv.verIn t n b x hx).2
      exact ⟨rfl, p1 b hlt, fun r hr => by rw [l1]; exact hr⟩
  exact ⟨v, g2, x, H, rfl, ⟨rfl, rfl⟩, e2, i2, VR.mono e1 x v vc⟩
theorem str_args {s : List UInt8} (g g' : Gh) (w : World) (vs : List Value) (h : AR g w [.str s] vs) : AR g' w [.str s] vs := by
  obtain ⟨v, vs', e, h1, h2⟩ := h
  exact ⟨v, vs', e, h1, h2⟩
end
end Go.Av
namespace Go.Av
open Go.Proofs
variable {W0 : World}
set_option maxRecDepth 10000
set_option maxHeartbeats 4000000
def TokOKs (l : List Tok) : Prop := l.length ≤ 1000000 ∧ ∀ t ∈ l, t.text.length ≤ 67108863
def keyI (l : List Tok) (x : Int) (s : Str) : Bool := decide (0 ≤ x) && keyAt l x.toNat s
theorem key_lt {l : List Tok} {x : Int} {s : Str} (h : keyI l x s = true) : 0 ≤ x ∧ x < l.length := by
  simp only [keyI, Bool.and_eq_true, decide_eq_true_eq] at h
  have := keyAt_lt h.2
  omega
theorem sfk {l : List Tok} {own : Own} {x : Int} {s : Str} {H : Hp} (hx : 0 ≤ x) : SF Tryz.prog W0 138 [.sl 4 (toks l) own, .int .i64 x, .str s] H fun r H' => H' = H ∧ r = .bool (keyI l x s) := by
  have h := sf138 (W0 := W0) (l := l) (own := own) (i := x.toNat) (s := s) (H := H)
  rw [Int.toNat_of_nonneg hx] at h
  simpa [keyI, hx] using h
def nameI (l : List Tok) (x : Int) : Bool := decide (0 ≤ x) && (match l[x.toNat]? with | some t => decide (t.kind = 1) && checkB t.text | none => false)
def longI (l : List Tok) (x : Int) : Bool := decide (0 ≤ x) && (match l[x.toNat]? with | some t => decide (t.kind = 1) && longB t.text | none => false)
theorem name_lt {l : List Tok} {x : Int} (h : nameI l x = true) : 0 ≤ x ∧ x < l.length := by
  simp only [nameI, Bool.and_eq_true, decide_eq_true_eq] at h
  rcases Nat.lt_or_ge x.toNat l.length with q | q
  · omega
  · rw [List.getElem?_eq_none q] at h; simp at h
theorem long_lt {l : List Tok} {x : Int} (h : longI l x = true) : 0 ≤ x ∧ x < l.length := by
  simp only [longI, Bool.and_eq_true, decide_eq_true_eq] at h
  rcases Nat.lt_or_ge x.toNat l.length with q | q
  · omega
  · rw [List.getElem?_eq_none q] at h; simp at h
theorem sf169 {l : List Tok} {own : Own} {x : Int} {H : Hp} (hl : TokOKs l) (hx : 0 ≤ x) (hx2 : x ≤ 2000000) : SF Tryz.prog W0 169 [.sl 4 (toks l) own, .int .i64 x] H fun r H' => H' = H ∧ ∃ s : Str, r = .tuple [.str s, .bool (nameI l x)] ∧ s.length ≤ 67108863 := by
  refine SF.pureLe (sf_start [4, 5] 35 Tryz.func169 rfl rfl rfl (by decide) (by simp) ?_)
  obtain ⟨i, rfl⟩ := Int.eq_ofNat_of_zero_le hx
  have hln := hl.1
  rcases Nat.lt_or_ge i l.length with hlt | hge
  · have htx := hl.2 l[i] (List.getElem_mem hlt)
    repeat' first
      | refine aSq ?_ | refine aRt ?_ | refine aSk ?_ | refine tN ?_ | refine tR ?_
      | (refine rg 1 ?_; refine tk 2 ?_; (first | (refine te (fun hb => ?_) (fun hb => ?_) <;> (try simp at hb) <;> try (exfalso; omega)) | (refine tk 1 ?_)); all_goals (refine tk 5 ?_; (first | (refine te (fun hb => ?_) (fun hb => ?_) <;> (try simp at hb) <;> try (exfalso; omega)) | (refine tk 1 ?_)); all_goals (refine tk 7 ?_; (first | (refine te (fun hb => ?_) (fun hb => ?_) <;> (try simp at hb) <;> try (exfalso; omega)) | (refine tk 1 ?_)); all_goals (refine tk 5 ?_; (first | (refine fg en157 ?_; refine SF.then (sf157 (by omega)) ?_) | (refine tk 1 ?_)); refine tk 1 ?_; refine dn ?_))))
      | refine ru ?_
      | (refine awp_if rfl (fun hb => ?_) (fun hb => ?_) <;> (try simp at hb) <;> try (exfalso; omega))
      | fail
    all_goals
      (have e0 : l[i]? = some l[i] := List.getElem?_eq_getElem hlt
       first
         | (have e : nameI l i = true := by simp [nameI, e0, *]
            exact ⟨Gr.refl _, .tuple [.str l[i].text, .bool (nameI l i)], by simp [e], _, rfl, htx⟩)
         | (have e : nameI l i = false := by simp [nameI, e0, *]
            exact ⟨Gr.refl _, .tuple [.str [], .bool (nameI l i)], by simp [e], _, rfl, by simp⟩))
  · repeat' first
      | refine aSq ?_ | refine aRt ?_ | refine aSk ?_ | refine tN ?_
      | (refine rg 1 ?_; refine tk 2 ?_; (first | (refine te (fun hb => ?_) (fun hb => ?_) <;> (try simp at hb) <;> try (exfalso; omega)) | (refine tk 1 ?_)); all_goals (refine tk 5 ?_; (first | (refine te (fun hb => ?_) (fun hb => ?_) <;> (try simp at hb) <;> try (exfalso; omega)) | (refine tk 1 ?_)); all_goals (refine tk 7 ?_; (first | (refine te (fun hb => ?_) (fun hb => ?_) <;> (try simp at hb) <;> try (exfalso; omega)) | (refine tk 1 ?_)); all_goals (refine tk 5 ?_; (first | (refine fg en157 ?_; refine SF.then (sf157 ..) ?_) | (refine tk 1 ?_)); refine tk 1 ?_; refine dn ?_))))
      | refine ru ?_
      | (refine awp_if rfl (fun hb => ?_) (fun hb => ?_) <;> (try simp at hb) <;> try (exfalso; omega))
      | fail
    have e : nameI l i = false := by simp [nameI, List.getElem?_eq_none hge]
    exact ⟨Gr.refl _, .tuple [.str [], .bool (nameI l i)], by simp [e], _, rfl, by simp⟩
theorem sf170 {l : List Tok} {own : Own} {x : Int} {H : Hp} (hl : TokOKs l) (hx : 0 ≤ x) (hx2 : x ≤ 2000000) : SF Tryz.prog W0 170 [.sl 4 (toks l) own, .int .i64 x] H fun r H' => H' = H ∧ ∃ s : Str, r = .tuple [.str s, .bool (longI l x)] ∧ s.length ≤ 67108863 := by
  refine SF.pureLe (sf_start [4, 5] 35 Tryz.func170 rfl rfl rfl (by decide) (by simp) ?_)
  obtain ⟨i, rfl⟩ := Int.eq_ofNat_of_zero_le hx
  have hln := hl.1
  rcases Nat.lt_or_ge i l.length with hlt | hge
  · have htx := hl.2 l[i] (List.getElem_mem hlt)
    repeat' first
      | refine aSq ?_ | refine aRt ?_ | refine aSk ?_ | refine tN ?_ | refine tR ?_
      | (refine rg 1 ?_; refine tk 2 ?_; (first | (refine te (fun hb => ?_) (fun hb => ?_) <;> (try simp at hb) <;> try (exfalso; omega)) | (refine tk 1 ?_)); all_goals (refine tk 5 ?_; (first | (refine te (fun hb => ?_) (fun hb => ?_) <;> (try simp at hb) <;> try (exfalso; omega)) | (refine tk 1 ?_)); all_goals (refine tk 7 ?_; (first | (refine te (fun hb => ?_) (fun hb => ?_) <;> (try simp at hb) <;> try (exfalso; omega)) | (refine tk 1 ?_)); all_goals (refine tk 5 ?_; (first | (refine fg en158 ?_; refine SF.then (sf158 (by omega)) ?_) | (refine tk 1 ?_)); refine tk 1 ?_; refine dn ?_))))
      | refine ru ?_
      | (refine awp_if rfl (fun hb => ?_) (fun hb => ?_) <;> (try simp at hb) <;> try (exfalso; omega))
      | fail
    all_goals
      (have e0 : l[i]? = some l[i] := List.getElem?_eq_getElem hlt
       first
         | (have e : longI l i = true := by simp [longI, e0, *]
            exact ⟨Gr.refl _, .tuple [.str l[i].text, .bool (longI l i)], by simp [e], _, rfl, htx⟩)
         | (have e : longI l i = false := by simp [longI, e0, *]
            exact ⟨Gr.refl _, .tuple [.str [], .bool (longI l i)], by simp [e], _, rfl, by simp⟩))
  · repeat' first
      | refine aSq ?_ | refine aRt ?_ | refine aSk ?_ | refine tN ?_
      | (refine rg 1 ?_; refine tk 2 ?_; (first | (refine te (fun hb => ?_) (fun hb => ?_) <;> (try simp at hb) <;> try (exfalso; omega)) | (refine tk 1 ?_)); all_goals (refine tk 5 ?_; (first | (refine te (fun hb => ?_) (fun hb => ?_) <;> (try simp at hb) <;> try (exfalso; omega)) | (refine tk 1 ?_)); all_goals (refine tk 7 ?_; (first | (refine te (fun hb => ?_) (fun hb => ?_) <;> (try simp at hb) <;> try (exfalso; omega)) | (refine tk 1 ?_)); all_goals (refine tk 5 ?_; (first | (refine fg en158 ?_; refine SF.then (sf158 ..) ?_) | (refine tk 1 ?_)); refine tk 1 ?_; refine dn ?_))))
      | refine ru ?_
      | (refine awp_if rfl (fun hb => ?_) (fun hb => ?_) <;> (try simp at hb) <;> try (exfalso; omega))
      | fail
    have e : longI l i = false := by simp [longI, List.getElem?_eq_none hge]
    exact ⟨Gr.refl _, .tuple [.str [], .bool (longI l i)], by simp [e], _, rfl, by simp⟩
end Go.Av
