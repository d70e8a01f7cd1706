/-
  Go read by value: lemmas (part 22): M5, M6, M7, M8, A25.
-/
import Derived.Test.YtdeocbficanfaaaGreatDoorX14
import Derived.Test.YtdeocbficanfaaaGreatDoorX21
set_option linter.unusedVariables false
set_option linter.unusedSimpArgs false
set_option linter.unusedSectionVars false
namespace Go.Av
def Tr.atI : Tr → Path → Option Tr
  | .none, _ => Option.none
  | t, [] => some t
  | .node _ _ _ _ l, i :: p => if 0 ≤ i then (match l[i.toNat]? with | some u => Tr.atI u p | Option.none => Option.none) else Option.none
theorem atI_nil {k n : Int} {a b : Str} {l : List Tr} : Tr.atI (.node k n a b l) [] = some (.node k n a b l) := rfl
theorem atI_append : ∀ (p : Path) (t u : Tr) (q : Path), Tr.atI t p = some u → Tr.atI t (p ++ q) = Tr.atI u q
  | [], .none, u, q, h => by simp [Tr.atI] at h
  | [], .node k n a b l, u, q, h => by cases h; rfl
  | i :: p, .none, u, q, h => by simp [Tr.atI] at h
  | i :: p, .node k n a b l, u, q, h => by
    simp only [Tr.atI, List.cons_append] at h ⊢
    split at h
    · rename_i hi
      rw [if_pos hi]
      split at h
      · rename_i v hv
        exact atI_append p v u q h
      · cases h
    · cases h
theorem atI_down {T : Tr} {p : Path} {k n : Int} {a b : Str} {l : List Tr} (h : Tr.atI T p = some (.node k n a b l)) {i : Nat} (hi : i < l.length) (hn : 1 ≤ (l[i]).cnt) : Tr.atI T (down p i) = some l[i] := by
  rw [down, atI_append p T _ _ h]
  simp only [Tr.atI]
  rw [if_pos (by omega)]
  have : (i : Int).toNat = i := by omega
  rw [this, List.getElem?_eq_getElem hi]
  cases hu : l[i] with
  | none => rw [hu] at hn; simp [Tr.cnt] at hn
  | node k' n' a' b' l' => rfl
def ltP : Path → Path → Bool
  | [], [] => false
  | [], _ :: _ => true
  | _ :: _, [] => false
  | x :: p, y :: q => if x = y then ltP p q else decide (x < y)
theorem ltP_trans : ∀ {p q r : Path}, ltP p q = true → ltP q r = true → ltP p r = true
  | [], [], r, h, _ => by cases h
  | [], _ :: _, [], _, k => by cases k
  | [], _ :: _, _ :: _, _, _ => rfl
  | _ :: _, [], _, h, _ => by cases h
  | x :: p, y :: q, [], _, k => by cases k
  | x :: p, y :: q, z :: r, h, k => by
    simp only [ltP] at h k ⊢
    split at h
    · rename_i e
      subst e
      split at k
      · rename_i e2; subst e2; rw [if_pos rfl]; exact ltP_trans h k
      · rename_i e2; rw [if_neg e2]; exact k
    · rename_i e
      simp only [decide_eq_true_eq] at h
      split at k
      · rename_i e2; subst e2; rw [if_neg e]; simpa using h
      · simp only [decide_eq_true_eq] at k
        rw [if_neg (by omega)]; simp; omega
theorem ltP_down : ∀ (p : Path) (i : Nat), ltP p (down p i) = true
  | [], i => rfl
  | x :: p, i => by
    show (if x = x then ltP p (down p i) else _) = true
    rw [if_pos rfl]; exact ltP_down p i
theorem ltP_next : ∀ (p : Path) {i j : Nat}, i < j → ltP (down p i) (down p j) = true
  | [], i, j, h => by
    show (if (i : Int) = j then ltP [] [] else decide ((i : Int) < j)) = true
    rw [if_neg (by omega)]; simp; exact h
  | x :: p, i, j, h => by
    show (if x = x then ltP (down p i) (down p j) else _) = true
    rw [if_pos rfl]; exact ltP_next p h
theorem down_ne (p : Path) (i : Nat) : down p i ≠ [] := by simp [down]
mutual
def Tr.nref : Tr → Nat
  | .none => 0
  | .node k _ _ _ l => (if refK k then 1 else 0) + Tr.nrefs l
def Tr.nrefs : List Tr → Nat
  | [] => 0
  | t :: l => t.nref + Tr.nrefs l
end
def K1 : List Int := [70, 71, 72, 73, 74, 75, 60, 61, 62, 63, 24, 29, 34, 7]
def K2 : List Int := [76, 77, 64]
def BdS (T : Tr) (q : Path) (br : Bool) : Prop := q ≠ [] ∧ ∃ x, T.atI q = some x ∧ x.kind ∈ (if br then K2 else K1)
def SS (T : Tr) (p : Path) (s : List Bd) : Prop := ∀ b ∈ s, ltP b.site p = true ∧ BdS T b.site b.br
theorem SS.lt {T : Tr} {p q : Path} {s : List Bd} (h : SS T p s) (k : ltP p q = true) : SS T q s := fun b hb => ⟨ltP_trans (h b hb).1 k, (h b hb).2⟩
theorem SS.nil {T : Tr} {p : Path} : SS T p [] := fun b hb => by cases hb
theorem SS.down {T : Tr} {p : Path} {s : List Bd} (h : SS T p s) (i : Nat) : SS T (down p i) s := h.lt (ltP_down p i)
theorem SS.bind {T : Tr} {p q : Path} {s : List Bd} {x : Str} {ins : List Hs} (h : SS T p s) (hq : ltP q p = true) (hb : BdS T q false) : SS T p (bindB s x q ins) := fun b m => by
  rcases List.mem_append.1 m with m | m
  · exact h b m
  · rw [List.mem_singleton.1 m]; exact ⟨hq, hb⟩
theorem SS.bring {T : Tr} {p q : Path} {s : List Bd} {ins : List Hs} (h : SS T p s) (hq : ltP q p = true) (hb : BdS T q true) : SS T p (bringB s ins q) := fun b m => by
  rcases List.mem_append.1 m with m | m
  · exact h b m
  · obtain ⟨k, _, rfl⟩ := List.mem_map.1 m; exact ⟨hq, hb⟩
def LkS (T : Tr) (k : Lk) : Prop := ∃ x b, T.atI k.at' = some x ∧ T.atI k.site = some b ∧ x.name = k.name ∧ k.site ≠ [] ∧ ltP k.site k.at' = true ∧ k.name.length ≤ 128 ∧
  ((b.kind ∈ K1 ∧ k.rest.length + 1 = (splitB k.name).length) ∨ (b.kind ∈ K2 ∧ k.rest.length = (splitB k.name).length))
def WkS (T : Tr) (w w' : Wk) (c : Nat) : Prop := (w'.E = 0 → w.E = 0 ∧ w'.L.length = w.L.length + c) ∧ ∀ k ∈ w'.L, k ∈ w.L ∨ LkS T k
theorem WkS.refl (T : Tr) (w : Wk) : WkS T w w 0 := ⟨fun h => ⟨h, rfl⟩, fun _ h => .inl h⟩
theorem WkS.trans {T : Tr} {w w' w'' : Wk} {c d : Nat} (h : WkS T w w' c) (k : WkS T w' w'' d) : WkS T w w'' (c + d) :=
  ⟨fun e => by
    obtain ⟨e1, l1⟩ := k.1 e
    obtain ⟨e2, l2⟩ := h.1 e1
    exact ⟨e2, by omega⟩, fun q hq => (k.2 q hq).elim (fun m => h.2 q m) .inr⟩
theorem WkS.eq {T : Tr} {w w' : Wk} {c d : Nat} (h : WkS T w w' c) (e : c = d) : WkS T w w' d := e ▸ h
theorem refer_ws {T : Tr} {s : List Bd} {p : Path} {sp long : Str} {x : Tr} (w : Wk) (hs : SS T p s) (hx : T.atI p = some x) (hn : x.name = long) : WkS T w (refer w s p sp long).1 1 := by
  unfold refer
  split
  · exact ⟨fun h => by simp at h, fun _ h => .inl h⟩
  · rename_i k hh e
    refine ⟨fun h => ⟨h, by simp⟩, fun q hq => ?_⟩
    rcases List.mem_append.1 hq with m | m
    · exact .inl m
    · rw [List.mem_singleton.1 m]
      refine .inr ?_
      unfold one at e
      split at e
      · cases e
      · rename_i y r hr
        split at e
        · cases e
        · rename_i b hb
          split at e
          · cases e
          · cases e
            obtain ⟨hlt, hne, n, hnn, hk⟩ := hs b (findL_some hb).1
            have hln : long.length ≤ 128 := by
              unfold splitB at hr
              split at hr
              · exact longB_len (by assumption)
              · cases hr
            refine ⟨x, n, hx, hnn, hn, hne, hlt, hln, ?_⟩
            rw [hr]
            cases hbr : b.br with
            | true => rw [hbr] at hk; exact .inr ⟨hk, by simp⟩
            | false => rw [hbr] at hk; exact .inl ⟨hk, by simp⟩
theorem foldK_ws {T : Tr} {f : Nat → Tr → Wk → Wk} {g : Tr → Nat} : ∀ (l : List Tr) (i : Nat) (w : Wk), (∀ j (h : j < l.length) w, WkS T w (f (i + j) l[j] w) (g l[j])) → WkS T w (foldK f i l w) ((l.map g).sum)
  | [], _, w, _ => .refl _ _
  | t :: l, i, w, hs => by
    simp only [foldK, List.map_cons, List.sum_cons]
    refine (hs 0 (by simp) w).trans (foldK_ws l (i + 1) _ fun j h w => ?_)
    have := hs (j + 1) (by simpa using h) w
    rw [show i + 1 + j = i + (j + 1) from by omega]
    simpa using this
theorem nrefs_sum : ∀ l : List Tr, (l.map Tr.nref).sum = Tr.nrefs l
  | [] => rfl
  | t :: l => by simp only [List.map_cons, List.sum_cons, Tr.nrefs, nrefs_sum l]
end Go.Av
namespace Go.Av
theorem typW_ws {T : Tr} : ∀ (N : Nat) (s : List Bd) (t : Tr) (p : Path) (w : Wk), t.cnt ≤ N → TyW t → SS T p s → p ≠ [] → T.atI p = some t → WkS T w (typW N s t p w) t.nref
  | 0, _, t, _, w, hN, ht, _, _, _ => by have := ht.pos; omega
  | N + 1, s, t, p, w, hN, ht, hs, hp, hat => by
    obtain ⟨k, n, a, b, l, rfl, ha, hl, hr⟩ : ∃ k n a b l, t = .node k n a b l ∧ a.length ≤ 128 ∧ (∀ t ∈ l, TyW t) ∧ (refK k = true → k = 4) := by
      cases ht with
      | mk h4 ha hl hr => exact ⟨_, _, _, _, _, rfl, ha, hl, hr⟩
    simp only [typW, Tr.kids, Tr.kind, Tr.name]
    simp only [Tr.cnt] at hN
    have hs' : ∀ i, SS T (down p i) (if k = 7 ∨ k = 62 ∨ k = 72 then bindB s (116 :: 58 :: a) p [] else s) := fun i => by
      split
      · rename_i hk
        refine (hs.down i).bind (ltP_down p i) ⟨hp, _, hat, ?_⟩
        simp only [Tr.kind]
        rcases hk with rfl | rfl | rfl <;> decide
      · exact hs.down i
    have h0 : WkS T w (if k = 4 then (refer w s p [116] a).1 else w) (if refK k then 1 else 0) := by
      by_cases hk : k = 4
      · subst hk; exact refer_ws w hs hat rfl
      · have : refK k = false := by
          cases h : refK k with
          | false => rfl
          | true => exact absurd (hr h) hk
        rw [if_neg hk, this]; exact .refl _ _
    have h1 := foldK_ws (T := T) (f := fun i t w => typW N (if k = 7 ∨ k = 62 ∨ k = 72 then bindB s (116 :: 58 :: a) p [] else s) t (down p i) w) (g := Tr.nref) l 0 (if k = 4 then (refer w s p [116] a).1 else w) (fun j h w => by
      have hc := Tr.cnts_le l j h
      rw [Nat.zero_add]
      exact typW_ws N _ _ _ w (by omega) (hl _ (List.getElem_mem h)) (hs' j) (down_ne p j) (atI_down hat h (hl _ (List.getElem_mem h)).pos))
    rw [nrefs_sum] at h1
    exact (h0.trans h1).eq rfl
theorem exprW_ws {T : Tr} : ∀ (N : Nat) (s : List Bd) (t : Tr) (p : Path) (w : Wk), t.cnt ≤ N → ExW t → SS T p s → p ≠ [] → T.atI p = some t → WkS T w (exprW N s t p w) t.nref
  | 0, _, t, _, w, hN, ht, _, _, _ => by have := ht.pos; omega
  | N + 1, s, t, p, w, hN, ht, hs, hp, hat => by
    have ih := exprW_ws (T := T) N
    have it := typW_ws (T := T) N
    have hb : ∀ (i : Nat) (x : Str), (∃ y, T.atI p = some y ∧ y.kind ∈ K1) → SS T (down p i) (bindB s (118 :: 58 :: x) p []) := fun i x ⟨y, h1, h2⟩ => (hs.down i).bind (ltP_down p i) ⟨hp, y, h1, h2⟩
    cases ht with
    | var hx => 
      simp only [exprW, Tr.kind, Tr.kids, foldK, if_true]
      exact (refer_ws w hs hat rfl).eq (by simp [Tr.nref, Tr.nrefs, refK])
    | @lam n a b t e ha h1 h2 =>
      simp only [Tr.cnt, Tr.cnts] at hN
      simp only [exprW, Tr.kind, Tr.kids, foldK, Tr.name]
      simp
      have q1 := it s t (down p 0) w (by omega) h1 (hs.down 0) (down_ne p 0) (atI_down hat (by simp) h1.pos)
      have q2 := ih _ e (down p 1) (typW N s t (down p 0) w) (by omega) h2 (hb 1 a ⟨_, hat, by simp [Tr.kind, K1]⟩) (down_ne p 1) (atI_down hat (i := 1) (by simp) h2.pos)
      exact (q1.trans q2).eq (by simp [Tr.nref, Tr.nrefs, refK])
    | @bnd n a b t e ha h1 h2 =>
      simp only [Tr.cnt, Tr.cnts] at hN
      simp only [exprW, Tr.kind, Tr.kids, foldK, Tr.name]
      simp
      have q1 := ih s t (down p 0) w (by omega) h1 (hs.down 0) (down_ne p 0) (atI_down hat (by simp) h1.pos)
      have q2 := ih _ e (down p 1) (exprW N s t (down p 0) w) (by omega) h2 (hb 1 a ⟨_, hat, by simp [Tr.kind, K1]⟩) (down_ne p 1) (atI_down hat (i := 1) (by simp) h2.pos)
      exact (q1.trans q2).eq (by simp [Tr.nref, Tr.nrefs, refK])
    | @arm n a b e hb' h2 =>
      simp only [Tr.cnt, Tr.cnts] at hN
      simp only [exprW, Tr.kind, Tr.kids, foldK, Tr.name, Tr.mark]
      simp
      have q2 := ih _ e (down p 0) w (by omega) h2 (hb 0 b ⟨_, hat, by simp [Tr.kind, K1]⟩) (down_ne p 0) (atI_down hat (i := 0) (by simp) h2.pos)
      exact q2.eq (by simp [Tr.nref, Tr.nrefs, refK])
    | @fold n a b e t l h1 h2 h3 =>
      simp only [Tr.cnt, Tr.cnts] at hN
      simp only [exprW, Tr.kind, Tr.kids, foldK]
      simp
      have q1 := ih s e (down p 0) w (by omega) h1 (hs.down 0) (down_ne p 0) (atI_down hat (by simp) h1.pos)
      have q2 := it s t (down p 1) (exprW N s e (down p 0) w) (by omega) h2 (hs.down 1) (down_ne p 1) (atI_down hat (i := 1) (by simp) h2.pos)
      have q3 := foldK_ws (T := T) (f := fun i k w => if i = 1 then typW N s k (down p i) w else exprW N s k (down p i) w) (g := Tr.nref) l 2 (typW N s t (down p 1) (exprW N s e (down p 0) w)) (fun j h w => by
        have hc := Tr.cnts_le l j h
        have hm := h3 _ (List.getElem_mem h)
        rw [if_neg (by omega)]
        have := atI_down hat (i := 2 + j) (by simp; omega) (by simpa [Nat.add_comm 2 j] using hm.pos)
        exact ih s l[j] (down p (2 + j)) w (by omega) hm (hs.down _) (down_ne p _) (by simpa [Nat.add_comm 2 j] using this))
      rw [nrefs_sum] at q3
      exact ((q1.trans q2).trans q3).eq (by simp [Tr.nref, Tr.nrefs, refK]; omega)
    | @other k n a b l n23 n24 n29 n33 n34 hl hr =>
      simp only [Tr.cnt] at hN
      simp only [exprW, Tr.kind, Tr.kids, n23, n24, n29, n33, n34, if_false, false_and, or_false]
      have q3 := foldK_ws (T := T) (f := fun i k w => exprW N s k (down p i) w) (g := Tr.nref) l 0 w (fun j h w => by
        have hc := Tr.cnts_le l j h
        have hm := hl _ (List.getElem_mem h)
        rw [Nat.zero_add]
        exact ih s l[j] (down p j) w (by omega) hm (hs.down _) (down_ne p _) (atI_down hat h hm.pos))
      rw [nrefs_sum] at q3
      exact q3.eq (by simp [Tr.nref, hr])
def New (T : Tr) (q : Path) (s s' : List Bd) : Prop := ∀ b ∈ s', b ∈ s ∨ (b.site = q ∧ BdS T q b.br)
theorem New.refl (T : Tr) (q : Path) (s : List Bd) : New T q s s := fun _ h => .inl h
theorem New.bind {T : Tr} {q : Path} {s s' : List Bd} {x : Str} {ins : List Hs} (h : New T q s s') (hb : BdS T q false) : New T q s (bindB s' x q ins) := fun b m => by
  rcases List.mem_append.1 m with m | m
  · exact h b m
  · rw [List.mem_singleton.1 m]; exact .inr ⟨rfl, hb⟩
theorem New.bring {T : Tr} {q : Path} {s : List Bd} {ins : List Hs} (hb : BdS T q true) : New T q s (bringB s ins q) := fun b m => by
  rcases List.mem_append.1 m with m | m
  · exact .inl m
  · obtain ⟨k, _, rfl⟩ := List.mem_map.1 m; exact .inr ⟨rfl, hb⟩
theorem New.ss {T : Tr} {q r : Path} {s s' : List Bd} (h : New T q s s') (hs : SS T q s) (hq : ltP q r = true) : SS T r s' := fun b m => by
  rcases h b m with m | ⟨e, hb⟩
  · exact hs.lt hq b m
  · rw [e]; exact ⟨hq, hb⟩
theorem New.putKids {T : Tr} {p : Path} {s : List Bd} (hb : BdS T p false) : ∀ (l : List Tr) (x : Stt), New T p s x.S → New T p s (putKids p l x).S
  | [], _, h => h
  | t :: l, x, h => New.putKids hb l _ (h.bind hb)
theorem foldS_ws {T : Tr} {p : Path} {f : Nat → Tr → Wk × Stt → Wk × Stt} : ∀ (l : List Tr) (i : Nat) (x : Wk × Stt), SS T (down p i) x.2.S →
    (∀ j (h : j < l.length) x, SS T (down p (i + j)) x.2.S → WkS T x.1 (f (i + j) l[j] x).1 (l[j]).nref ∧ New T (down p (i + j)) x.2.S (f (i + j) l[j] x).2.S) → WkS T x.1 (foldK f i l x).1 (Tr.nrefs l)
  | [], _, x, _, _ => .refl _ _
  | t :: l, i, x, hx, hs => by
    simp only [foldK, Tr.nrefs]
    obtain ⟨h1, h2⟩ := hs 0 (by simp) x hx
    refine h1.trans (foldS_ws l (i + 1) _ (h2.ss hx (ltP_next p (by omega))) fun j h y hy => ?_)
    have e : i + 1 + j = i + (j + 1) := by omega
    rw [e] at hy ⊢
    exact hs (j + 1) (by simpa using h) y hy
def SigZ (T : Tr) (N : Nat) : Prop := ∀ (s : List Bd) (t : Tr) (p : Path) (w : Wk), t.cnt ≤ N → SgW t → SS T p s → p ≠ [] → T.atI p = some t → WkS T w (sigW N s t p w).1 t.nref
def SpecZ (T : Tr) (N : Nat) : Prop := ∀ (x : Stt) (t : Tr) (p : Path) (w : Wk), t.cnt ≤ N → SpW t → SS T p x.S → p ≠ [] → T.atI p = some t → WkS T w (specW N x t p w).1 t.nref ∧ New T p x.S (specW N x t p w).2.S
def ModZ (T : Tr) (N : Nat) : Prop := ∀ (s : List Bd) (t : Tr) (p : Path) (w : Wk), t.cnt ≤ N → MdW t → SS T p s → p ≠ [] → T.atI p = some t → WkS T w (modW N s t p w).1 t.nref
def DeclZ (T : Tr) (N : Nat) : Prop := ∀ (x : Stt) (t : Tr) (p : Path) (w : Wk), t.cnt ≤ N → DcW t → SS T p x.S → p ≠ [] → T.atI p = some t → WkS T w (declW N x t p w).1 t.nref ∧ New T p x.S (declW N x t p w).2.S
theorem dataZ {T : Tr} {N : Nat} {x : Stt} {k n : Int} {a b : Str} {l : List Tr} {p : Path} {w : Wk} (hk : k = 62 ∨ k = 72) (hN : (Tr.node k n a b l).cnt ≤ N) (ht : TyW (.node k n a b l)) (hs : SS T p x.S) (hp : p ≠ []) (hat : T.atI p = some (.node k n a b l)) :
    WkS T w (dataW N x (.node k n a b l) p w).1 (Tr.node k n a b l).nref ∧ New T p x.S (dataW N x (.node k n a b l) p w).2.S := by
  have hb : BdS T p false := ⟨hp, _, hat, by rcases hk with rfl | rfl <;> simp [Tr.kind, K1]⟩
  exact ⟨typW_ws N _ _ _ _ hN ht hs hp hat, New.putKids hb _ _ ((New.refl _ _ _).bind hb)⟩
theorem sigZ_step {T : Tr} {N : Nat} (ihg : SigZ T N) (ihp : SpecZ T N) : SigZ T (N + 1) := by
  intro s t p w hN ht hs hp hat
  cases ht with
  | name hx => rw [sigW_name]; exact (refer_ws w hs hat rfl).eq (by simp [Tr.nref, Tr.nrefs, refK])
  | @wh n a b g t2 h1 h2 =>
    simp only [Tr.cnt, Tr.cnts] at hN
    rw [sigW_wh]
    have q1 := ihg s g (down p 0) w (by omega) h1 (hs.down 0) (down_ne p 0) (atI_down hat (by simp) h1.pos)
    have q2 := typW_ws (T := T) N s t2 (down p 1) (sigW N s g (down p 0) w).1 (by omega) h2 (hs.down 1) (down_ne p 1) (atI_down hat (i := 1) (by simp) h2.pos)
    exact (q1.trans q2).eq (by simp [Tr.nref, Tr.nrefs, refK])
  | @body n a b l hl =>
    simp only [Tr.cnt] at hN
    rw [sigW_body]
    refine (foldS_ws (T := T) (p := p) l 0 (w, ⟨s, []⟩) (hs.down 0) fun j h x hx => ?_).eq (by simp [Tr.nref, refK])
    have hc := Tr.cnts_le l j h
    have hm := hl _ (List.getElem_mem h)
    rw [Nat.zero_add] at hx ⊢
    exact ihp x.2 l[j] (down p j) x.1 (by omega) hm hx (down_ne p j) (atI_down hat h hm.pos)
theorem specZ_step {T : Tr} {N : Nat} (ihg : SigZ T N) : SpecZ T (N + 1) := by
  intro x t p w hN ht hs hp hat
  have hb : t.kind ∈ K1 → BdS T p false := fun h => ⟨hp, _, hat, h⟩
  cases ht with
  | @val n a b t ha h1 =>
    simp only [Tr.cnt, Tr.cnts] at hN
    rw [specW_val]
    exact ⟨(typW_ws (T := T) N _ _ _ _ (by omega) h1 (hs.down 0) (down_ne p 0) (atI_down hat (by simp) h1.pos)).eq (by simp [Tr.nref, Tr.nrefs, refK]), (New.refl _ _ _).bind (hb (by simp [Tr.kind, K1]))⟩
  | typ0 ha => rw [specW_tysM]; exact ⟨(WkS.refl _ _).eq (by simp [Tr.nref, Tr.nrefs, refK]), (New.refl _ _ _).bind (hb (by simp [Tr.kind, K1]))⟩
  | @typ1 n a b t ha h1 =>
    simp only [Tr.cnt, Tr.cnts] at hN
    rw [specW_tysM]
    exact ⟨(typW_ws (T := T) N _ _ _ _ (by omega) h1 (hs.down 0) (down_ne p 0) (atI_down hat (by simp) h1.pos)).eq (by simp [Tr.nref, Tr.nrefs, refK]), (New.refl _ _ _).bind (hb (by simp [Tr.kind, K1]))⟩
  | data h8 h1 => rw [specW_data]; exact dataZ (.inl rfl) hN h1 hs hp hat
  | @str n a b g ha h1 =>
    simp only [Tr.cnt, Tr.cnts] at hN
    rw [specW_str]
    exact ⟨(ihg _ _ _ _ (by omega) h1 (hs.down 0) (down_ne p 0) (atI_down hat (by simp) h1.pos)).eq (by simp [Tr.nref, Tr.nrefs, refK]), (New.refl _ _ _).bind (hb (by simp [Tr.kind, K1]))⟩
  | @inc n a b g h1 =>
    simp only [Tr.cnt, Tr.cnts] at hN
    rw [specW_inc]
    exact ⟨(ihg _ _ _ _ (by omega) h1 (hs.down 0) (down_ne p 0) (atI_down hat (by simp) h1.pos)).eq (by simp [Tr.nref, Tr.nrefs, refK]), New.bring ⟨hp, _, hat, by simp [Tr.kind, K2]⟩⟩
  | share => simp only [specW, Tr.kind]; exact ⟨(WkS.refl _ _).eq (by simp [Tr.nref, Tr.nrefs, refK]), New.refl _ _ _⟩
theorem sigsZ (T : Tr) : ∀ N, SigZ T N ∧ SpecZ T N
  | 0 => ⟨fun s t p w hN ht => by have := ht.pos; omega, fun x t p w hN ht => by have := ht.pos; omega⟩
  | N + 1 => have ih := sigsZ T N; ⟨sigZ_step ih.1 ih.2, specZ_step ih.1⟩
theorem WkS.ends {T : Tr} {w w' : Wk} {c : Nat} (h : WkS T w w' c) (X : List Lk) : WkS T w { w' with X := X } c := ⟨h.1, h.2⟩
theorem modZ_step {T : Tr} {N : Nat} (ihm : ModZ T N) (ihd : DeclZ T N) : ModZ T (N + 1) := by
  intro s t p w hN ht hs hp hat
  cases ht with
  | path hx => rw [modW_path]; exact (refer_ws w hs hat rfl).eq (by simp [Tr.nref, Tr.nrefs, refK])
  | @app n a b m hx h1 =>
    simp only [Tr.cnt, Tr.cnts] at hN
    rw [modW_app]
    exact ((refer_ws (sp := [102]) w hs hat rfl).trans (ihm _ _ _ _ (by omega) h1 (hs.down 0) (down_ne p 0) (atI_down hat (by simp) h1.pos))).eq (by simp [Tr.nref, Tr.nrefs, refK])
  | @sealM n a b m g h1 h2 =>
    simp only [Tr.cnt, Tr.cnts] at hN
    rw [modW_seal]
    exact ((ihm _ _ _ w (by omega) h1 (hs.down 0) (down_ne p 0) (atI_down hat (by simp) h1.pos)).trans ((sigsZ T N).1 _ _ _ _ (by omega) h2 (hs.down 1) (down_ne p 1) (atI_down hat (i := 1) (by simp) h2.pos))).eq (by simp [Tr.nref, Tr.nrefs, refK])
  | @body n a b l hl =>
    simp only [Tr.cnt] at hN
    rw [modW_body]
    refine ((foldS_ws (T := T) (p := p) (f := declF N p) l 0 (w, ⟨s, []⟩) (hs.down 0) fun j h x hx => ?_).eq (by simp [Tr.nref, refK])).ends _
    have hc := Tr.cnts_le l j h
    have hm := hl _ (List.getElem_mem h)
    rw [Nat.zero_add] at hx ⊢
    exact ihd x.2 l[j] (down p j) x.1 (by omega) hm hx (down_ne p j) (atI_down hat h hm.pos)
theorem declZ_step {T : Tr} {N : Nat} (ihm : ModZ T N) : DeclZ T (N + 1) := by
  intro x t p w hN ht hs hp hat
  have hb : t.kind ∈ K1 → BdS T p false := fun h => ⟨hp, _, hat, h⟩
  have it := typW_ws (T := T) N
  cases ht with
  | @val1 n a b e ha h1 =>
    simp only [Tr.cnt, Tr.cnts] at hN
    rw [declW_val1]
    exact ⟨(exprW_ws (T := T) N _ _ _ _ (by omega) h1 (hs.down 0) (down_ne p 0) (atI_down hat (by simp) h1.pos)).eq (by simp [Tr.nref, Tr.nrefs, refK]), (New.refl _ _ _).bind (hb (by simp [Tr.kind, K1]))⟩
  | @val2 n a b t e ha h1 h2 =>
    simp only [Tr.cnt, Tr.cnts] at hN
    rw [declW_val2]
    exact ⟨((it x.S t (down p 0) w (by omega) h1 (hs.down 0) (down_ne p 0) (atI_down hat (by simp) h1.pos)).trans (exprW_ws (T := T) N _ _ _ _ (by omega) h2 (hs.down 1) (down_ne p 1) (atI_down hat (i := 1) (by simp) h2.pos))).eq (by simp [Tr.nref, Tr.nrefs, refK]), (New.refl _ _ _).bind (hb (by simp [Tr.kind, K1]))⟩
  | @typ n a b t ha h1 =>
    simp only [Tr.cnt, Tr.cnts] at hN
    rw [declW_typ]
    exact ⟨(it _ _ _ _ (by omega) h1 (hs.down 0) (down_ne p 0) (atI_down hat (by simp) h1.pos)).eq (by simp [Tr.nref, Tr.nrefs, refK]), (New.refl _ _ _).bind (hb (by simp [Tr.kind, K1]))⟩
  | data h8 h1 => rw [declW_data]; exact dataZ (.inr rfl) hN h1 hs hp hat
  | @str n a b m ha h1 =>
    simp only [Tr.cnt, Tr.cnts] at hN
    rw [declW_str]
    exact ⟨(ihm _ _ _ _ (by omega) h1 (hs.down 0) (down_ne p 0) (atI_down hat (by simp) h1.pos)).eq (by simp [Tr.nref, Tr.nrefs, refK]), (New.refl _ _ _).bind (hb (by simp [Tr.kind, K1]))⟩
  | @sg n a b g ha h1 =>
    simp only [Tr.cnt, Tr.cnts] at hN
    rw [declW_sg]
    exact ⟨((sigsZ T N).1 _ _ _ _ (by omega) h1 (hs.down 0) (down_ne p 0) (atI_down hat (by simp) h1.pos)).eq (by simp [Tr.nref, Tr.nrefs, refK]), (New.refl _ _ _).bind (hb (by simp [Tr.kind, K1]))⟩
  | @ftor n a b g m ha hb1 h1 h2 =>
    simp only [Tr.cnt, Tr.cnts] at hN
    rw [declW_ftor]
    exact ⟨(((sigsZ T N).1 _ _ _ w (by omega) h1 (hs.down 0) (down_ne p 0) (atI_down hat (by simp) h1.pos)).trans (ihm _ _ _ _ (by omega) h2 ((hs.down 1).bind (ltP_down p 1) (hb (by simp [Tr.kind, K1]))) (down_ne p 1) (atI_down hat (i := 1) (by simp) h2.pos))).eq (by simp [Tr.nref, Tr.nrefs, refK]), (New.refl _ _ _).bind (hb (by simp [Tr.kind, K1]))⟩
  | opn hx => rw [declW_opn]; exact ⟨(refer_ws w hs hat rfl).eq (by simp [Tr.nref, Tr.nrefs, refK]), New.bring ⟨hp, _, hat, by simp [Tr.kind, K2]⟩⟩
  | inc hx => rw [declW_inc]; exact ⟨(refer_ws w hs hat rfl).eq (by simp [Tr.nref, Tr.nrefs, refK]), New.bring ⟨hp, _, hat, by simp [Tr.kind, K2]⟩⟩
theorem modsZ (T : Tr) : ∀ N, ModZ T N ∧ DeclZ T N
  | 0 => ⟨fun s t p w hN ht => by have := ht.pos; omega, fun x t p w hN ht => by have := ht.pos; omega⟩
  | N + 1 => have ih := modsZ T N; ⟨modZ_step ih.1 ih.2, declZ_step ih.1⟩
theorem progW_ws {t : Tr} (h : isB t 7 = true) (he : (progW t.cnt t).E = 0) : (progW t.cnt t).L.length = t.nref ∧ ∀ k ∈ (progW t.cnt t).L, LkS t k := by
  obtain ⟨n, a, b, l, rfl, hl⟩ := pr_ok h
  obtain ⟨N, hN⟩ : ∃ N, (Tr.node 80 n a b l).cnt = N := ⟨_, rfl⟩
  rw [hN] at he ⊢
  have hc : Tr.cnts l ≤ N := by simp only [Tr.cnt] at hN; omega
  have q := foldS_ws (T := .node 80 n a b l) (p := []) (f := declF N []) l 0 (⟨[], [], 0⟩, ⟨[], []⟩) SS.nil (fun j h x hx => by
    have hcj := Tr.cnts_le l j h
    have hm := hl _ (List.getElem_mem h)
    rw [Nat.zero_add] at hx ⊢
    exact (modsZ _ N).2 x.2 l[j] (down [] j) x.1 (by omega) hm hx (down_ne [] j) (atI_down atI_nil h hm.pos))
  have hpw : ∃ X, progW N (.node 80 n a b l) = { (foldK (declF N []) 0 l (⟨[], [], 0⟩, ⟨[], []⟩)).1 with X := X } := ⟨_, rfl⟩
  obtain ⟨X, hX⟩ := hpw
  rw [hX] at he ⊢
  obtain ⟨q1, q2⟩ := q
  refine ⟨?_, fun k hk => (q2 k hk).resolve_left (by simp)⟩
  have := (q1 he).2
  simp only [List.length_nil, Nat.zero_add] at this
  simp only [this, Tr.nref]
  simp [refK]
end Go.Av
namespace Go.Av
def shP : Path → Path
  | [] => []
  | i :: p => (i + 1) :: p
theorem shP_down : ∀ {p : Path} (i : Nat), p ≠ [] → shP (down p i) = down (shP p) i
  | [], _, h => absurd rfl h
  | _ :: _, _, _ => rfl
mutual
def shH : Hs → Hs
  | .mk a i b s r j => .mk a (shHs i) b (shP s) r (shHs j)
def shHs : List Hs → List Hs
  | [] => []
  | h :: l => shH h :: shHs l
end
theorem shHs_map : ∀ l : List Hs, shHs l = l.map shH
  | [] => rfl
  | h :: l => by simp [shHs, shHs_map l]
theorem shH_label (h : Hs) : (shH h).label = h.label := by cases h; simp [shH, Hs.label]
theorem shH_ins (h : Hs) : (shH h).ins = shHs h.ins := by cases h; simp [shH, Hs.ins]
def shB (b : Bd) : Bd := ⟨b.label, shP b.site, b.br, shHs b.ins⟩
def shL (k : Lk) : Lk := ⟨shP k.at', k.space, k.name, shP k.site, k.rest⟩
def shS (Z : List Bd) (x : Stt) : Stt := ⟨Z ++ x.S.map shB, shHs x.Out⟩
theorem findH_sh (x : Str) (l : List Hs) : findL (isH x) (shHs l) = (findL (isH x) l).map shH := by
  rw [shHs_map, findL_map]
  congr 1
  exact congrArg (fun f => findL f l) (funext fun h => by simp [isH, shH_label])
theorem findB_sh (Z : List Bd) {x : Str} {s : List Bd} {b : Bd} (h : findL (isBd x) s = some b) : findL (isBd x) (Z ++ s.map shB) = some (shB b) := by
  rw [findL_append, findL_map]
  have : findL (fun y => isBd x (shB y)) s = some b := h
  rw [this]; rfl
theorem goIn_sh (sp : Str) : ∀ (l : List Str) (h : List Hs), goIn sp l (shHs h) = (goIn sp l h).map shHs
  | [], _ => rfl
  | x :: r, h => by
    simp only [goIn]
    rw [findH_sh]
    cases findL (isH ((if r = [] then sp else [109]) ++ 58 :: x)) h with
    | none => rfl
    | some k => simp only [Option.map_some]; rw [shH_ins]; exact goIn_sh sp r k.ins
theorem one_sh (Z : List Bd) {s : List Bd} {p : Path} {sp long : Str} {k : Lk} {h : List Hs} (e : one s p sp long = some (k, h)) :
    one (Z ++ s.map shB) (shP p) sp long = some (shL k, shHs h) := by
  unfold one at e ⊢
  split at e
  · cases e
  · rename_i x r hs
    split at e
    · cases e
    · rename_i b hb
      split at e
      · cases e
      · rename_i h' hg
        cases e
        simp only [findB_sh Z hb, shB, goIn_sh, hg, Option.map_some]
        rfl
def WRs (w w' : Wk) : Prop := w.E = 0 ∧ w'.E = 0 ∧ w'.L = w.L.map shL
theorem refer_sh (Z : List Bd) {c : Prop} {s s' : List Bd} {p : Path} {sp long : Str} {w w' : Wk} (h : w.E = 8 ∨ WRs w w' ∧ s' = Z ++ s.map shB ∧ c) :
    (refer w s p sp long).1.E = 8 ∨ WRs (refer w s p sp long).1 (refer w' s' (shP p) sp long).1 ∧ (refer w' s' (shP p) sp long).2 = shHs (refer w s p sp long).2 ∧ c := by
  unfold refer
  cases ho : one s p sp long with
  | none => exact .inl rfl
  | some kh =>
    obtain ⟨k, hh⟩ := kh
    rcases h with h | ⟨⟨h1, h2, h3⟩, rfl, hc⟩
    · exact .inl h
    · rw [one_sh Z ho]
      exact .inr ⟨⟨h1, h2, by simp [h3]⟩, rfl, hc⟩
theorem foldK_rel {σ σ' : Type} (R : σ → σ' → Prop) {f : Nat → Tr → σ → σ} {f' : Nat → Tr → σ' → σ'} (hs : ∀ t j x x', R x x' → R (f j t x) (f' j t x')) :
    ∀ (l : List Tr) (i : Nat) (x : σ) (x' : σ'), R x x' → R (foldK f i l x) (foldK f' i l x')
  | [], _, _, _, h => h
  | t :: l, i, _, _, h => foldK_rel R hs l (i + 1) _ _ (hs t i _ _ h)
theorem bindB_sh (Z s : List Bd) (x : Str) (p : Path) (ins : List Hs) : bindB (Z ++ s.map shB) x (shP p) (shHs ins) = Z ++ (bindB s x p ins).map shB := by
  simp [bindB, shB]
theorem bringB_sh (Z s : List Bd) (p : Path) (ins : List Hs) : bringB (Z ++ s.map shB) (shHs ins) (shP p) = Z ++ (bringB s ins p).map shB := by
  simp [bringB, shHs_map, shB, shH_label, shH_ins, Function.comp_def]
theorem put_sh (l : List Hs) (k : Hs) : put (shHs l) (shH k) = shHs (put l k) := by
  simp only [put, shHs_map, List.map_append, List.map_cons, List.map_nil, List.filter_map]
  congr 2
  exact congrArg (fun f => List.filter f l) (funext fun h => by simp [shH_label])
theorem giveH_sh (p : Path) (h : Hs) : giveH (shP p) (shH h) = shH (giveH p h) := by
  simp only [giveH, shH_label, shH_ins, shH]
theorem putAll_sh (p : Path) : ∀ (k l : List Hs), putAll (shHs l) (shHs k) (shP p) = shHs (putAll l k p)
  | [], _ => rfl
  | h :: k, l => by simp only [shHs, putAll]; rw [giveH_sh, put_sh]; exact putAll_sh p k _
theorem sput_sh (Z : List Bd) (x : Stt) (lab : Str) (p : Path) (ins : List Hs) : (shS Z x).put lab (shP p) (shHs ins) = shS Z (x.put lab p ins) := by
  unfold Stt.put shS
  rw [bindB_sh, ← put_sh]
  simp only [shH]
theorem putKids_sh (Z : List Bd) (p : Path) : ∀ (l : List Tr) (x : Stt), putKids (shP p) l (shS Z x) = shS Z (putKids p l x)
  | [], _ => rfl
  | t :: l, x => by
    simp only [putKids]
    have := sput_sh Z x (118 :: 58 :: t.name) p []
    simp only [shHs] at this
    rw [this]; exact putKids_sh Z p l _
theorem typ_sh (Z : List Bd) : ∀ (N : Nat) {c : Prop} {s s' : List Bd} (t : Tr) {p : Path} {w w' : Wk}, p ≠ [] → (w.E = 8 ∨ WRs w w' ∧ s' = Z ++ s.map shB ∧ c) →
    ((typW N s t p w).E = 8 ∨ WRs (typW N s t p w) (typW N s' t (shP p) w') ∧ c)
  | 0, _, _, _, _, _, _, _, _, h => h.imp_right fun ⟨a, _, b⟩ => ⟨a, b⟩
  | N + 1, c, s, s', t, p, w, w', hp, h => by
    simp only [typW]
    refine (foldK_rel (fun w w' => w.E = 8 ∨ WRs w w' ∧ s' = Z ++ s.map shB ∧ c) (fun k i w w' h => ?_) t.kids 0 _ _ ?_).imp_right fun ⟨a, _, b⟩ => ⟨a, b⟩
    · rw [← shP_down i hp]
      refine typ_sh Z N k (down_ne p i) (h.imp_right fun ⟨a, b, d⟩ => ⟨a, ?_, b, d⟩)
      subst b
      split
      · exact bindB_sh Z s _ p []
      · rfl
    · split
      · exact (refer_sh (c := s' = Z ++ s.map shB ∧ c) Z (h.imp_right fun ⟨a, b, d⟩ => ⟨a, b, b, d⟩)).imp_right fun ⟨a, _, d⟩ => ⟨a, d⟩
      · exact h
theorem expr_sh (Z : List Bd) : ∀ (N : Nat) {c : Prop} {s s' : List Bd} (t : Tr) {p : Path} {w w' : Wk}, p ≠ [] → (w.E = 8 ∨ WRs w w' ∧ s' = Z ++ s.map shB ∧ c) →
    ((exprW N s t p w).E = 8 ∨ WRs (exprW N s t p w) (exprW N s' t (shP p) w') ∧ c)
  | 0, _, _, _, _, _, _, _, _, h => h.imp_right fun ⟨a, _, b⟩ => ⟨a, b⟩
  | N + 1, c, s, s', t, p, w, w', hp, h => by
    simp only [exprW]
    refine (foldK_rel (fun w w' => w.E = 8 ∨ WRs w w' ∧ s' = Z ++ s.map shB ∧ c) (fun k i w w' h => ?_) t.kids 0 _ _ ?_).imp_right fun ⟨a, _, b⟩ => ⟨a, b⟩
    · rw [← shP_down i hp]
      split
      · exact typ_sh Z N k (down_ne p i) (h.imp_right fun ⟨a, b, d⟩ => ⟨a, b, b, d⟩)
      · refine expr_sh Z N k (down_ne p i) (h.imp_right fun ⟨a, b, d⟩ => ⟨a, ?_, b, d⟩)
        subst b
        split
        · exact bindB_sh Z s _ p []
        · split
          · exact bindB_sh Z s _ p []
          · rfl
    · split
      · exact (refer_sh (c := s' = Z ++ s.map shB ∧ c) Z (h.imp_right fun ⟨a, b, d⟩ => ⟨a, b, b, d⟩)).imp_right fun ⟨a, _, d⟩ => ⟨a, d⟩
      · exact h
theorem data_sh (Z : List Bd) (N : Nat) {c : Prop} {x x' : Stt} (t : Tr) {p : Path} {w w' : Wk} (hp : p ≠ []) (h : w.E = 8 ∨ WRs w w' ∧ x' = shS Z x ∧ c) :
    (dataW N x t p w).1.E = 8 ∨ WRs (dataW N x t p w).1 (dataW N x' t (shP p) w').1 ∧ (dataW N x' t (shP p) w').2 = shS Z (dataW N x t p w).2 ∧ c := by
  unfold dataW
  refine typ_sh (c := _ ∧ c) Z N t hp (h.imp_right fun ⟨a, b, d⟩ => ⟨a, ?_, ?_, d⟩)
  · rw [b]; rfl
  · subst b
    show putKids (shP p) t.kids _ = _
    have := sput_sh Z x (116 :: 58 :: t.name) p []
    simp only [shHs] at this
    rw [this]; exact putKids_sh Z p _ _
mutual
theorem sig_sh (Z : List Bd) : ∀ (N : Nat) {c : Prop} {s s' : List Bd} (t : Tr) {p : Path} {w w' : Wk}, p ≠ [] → (w.E = 8 ∨ WRs w w' ∧ s' = Z ++ s.map shB ∧ c) →
    ((sigW N s t p w).1.E = 8 ∨ WRs (sigW N s t p w).1 (sigW N s' t (shP p) w').1 ∧ (sigW N s' t (shP p) w').2 = shHs (sigW N s t p w).2 ∧ c)
  | 0, _, _, _, _, _, _, _, _, h => h.imp_right fun ⟨a, _, b⟩ => ⟨a, rfl, b⟩
  | N + 1, c, s, s', t, p, w, w', hp, h => by
    simp only [sigW]
    split
    · exact refer_sh Z h
    · split
      · rw [← shP_down 0 hp, ← shP_down 1 hp]
        have h1 := sig_sh (c := s' = Z ++ s.map shB ∧ c) Z N (t.kid 0) (down_ne p 0) (h.imp_right fun ⟨a, b, d⟩ => ⟨a, b, b, d⟩)
        exact typ_sh (c := _ ∧ c) Z N (t.kid 1) (down_ne p 1) (h1.imp_right fun ⟨a, b, d, e⟩ => ⟨a, d, b, e⟩)
      · have h1 := foldK_rel (fun (x : Wk × Stt) (x' : Wk × Stt) => x.1.E = 8 ∨ WRs x.1 x'.1 ∧ x'.2 = shS Z x.2 ∧ c)
          (f := fun i k x => specW N x.2 k (down p i) x.1) (f' := fun i k x => specW N x.2 k (down (shP p) i) x.1)
          (fun k i x x' hx => by rw [← shP_down i hp]; exact spec_sh Z N k (down_ne p i) hx) t.kids 0 (w, ⟨s, []⟩) (w', ⟨s', []⟩)
          (h.imp_right fun ⟨a, b, d⟩ => ⟨a, by rw [b]; rfl, d⟩)
        exact h1.imp_right fun ⟨a, b, d⟩ => ⟨a, by rw [b]; rfl, d⟩
theorem spec_sh (Z : List Bd) : ∀ (N : Nat) {c : Prop} {x x' : Stt} (t : Tr) {p : Path} {w w' : Wk}, p ≠ [] → (w.E = 8 ∨ WRs w w' ∧ x' = shS Z x ∧ c) →
    ((specW N x t p w).1.E = 8 ∨ WRs (specW N x t p w).1 (specW N x' t (shP p) w').1 ∧ (specW N x' t (shP p) w').2 = shS Z (specW N x t p w).2 ∧ c)
  | 0, _, _, _, _, _, _, _, _, h => h
  | N + 1, c, x, x', t, p, w, w', hp, h => by
    simp only [specW]
    split
    · rw [← shP_down 0 hp]
      exact typ_sh (c := _ ∧ c) Z N (t.kid 0) (down_ne p 0) (h.imp_right fun ⟨a, b, d⟩ => ⟨a, by rw [b]; rfl, by rw [b]; exact sput_sh Z x _ p [], d⟩)
    · split
      · refine (foldK_rel (fun (w w' : Wk) => w.E = 8 ∨ WRs w w' ∧ x' = shS Z x ∧ c) (fun k i w w' h => ?_) t.kids 0 w w' h).imp_right fun ⟨a, b, d⟩ => ⟨a, by rw [b]; exact sput_sh Z x _ p [], d⟩
        rw [← shP_down i hp]
        exact typ_sh Z N k (down_ne p i) (h.imp_right fun ⟨a, b, d⟩ => ⟨a, by rw [b]; rfl, b, d⟩)
      · split
        · exact data_sh Z (N + 1) t hp h
        · split
          · rw [← shP_down 0 hp]
            exact (sig_sh (c := x' = shS Z x ∧ c) Z N (s' := x'.S) (t.kid 0) (down_ne p 0) (h.imp_right fun ⟨a, b, d⟩ => ⟨a, by rw [b]; rfl, b, d⟩)).imp_right
              fun ⟨a, b, d, e⟩ => ⟨a, by rw [b, d]; exact sput_sh Z x _ p _, e⟩
          · split
            · rw [← shP_down 0 hp]
              refine (sig_sh (c := x' = shS Z x ∧ c) Z N (s' := x'.S) (t.kid 0) (down_ne p 0) (h.imp_right fun ⟨a, b, d⟩ => ⟨a, by rw [b]; rfl, b, d⟩)).imp_right
                fun ⟨a, b, d, e⟩ => ⟨a, ?_, e⟩
              rw [b, d]
              simp only [shS, bringB_sh, putAll_sh]
            · exact h
end
mutual
theorem mod_sh (Z : List Bd) : ∀ (N : Nat) {c : Prop} {s s' : List Bd} (t : Tr) {p : Path} {w w' : Wk}, p ≠ [] → (w.E = 8 ∨ WRs w w' ∧ s' = Z ++ s.map shB ∧ c) →
    ((modW N s t p w).1.E = 8 ∨ WRs (modW N s t p w).1 (modW N s' t (shP p) w').1 ∧ (modW N s' t (shP p) w').2 = shHs (modW N s t p w).2 ∧ c)
  | 0, _, _, _, _, _, _, _, _, h => h.imp_right fun ⟨a, _, b⟩ => ⟨a, rfl, b⟩
  | N + 1, c, s, s', t, p, w, w', hp, h => by
    simp only [modW]
    split
    · exact refer_sh Z h
    · split
      · rw [← shP_down 0 hp]
        have h1 := refer_sh (c := s' = Z ++ s.map shB ∧ c) Z (p := p) (sp := [102]) (long := t.name) (h.imp_right fun ⟨a, b, d⟩ => ⟨a, b, b, d⟩)
        exact (mod_sh (c := _ ∧ c) Z N (t.kid 0) (down_ne p 0) (h1.imp_right fun ⟨a, b, d, e⟩ => ⟨a, d, b, e⟩)).imp_right fun ⟨a, _, b⟩ => ⟨a, b⟩
      · split
        · rw [← shP_down 0 hp, ← shP_down 1 hp]
          have h1 := mod_sh (c := s' = Z ++ s.map shB ∧ c) Z N (t.kid 0) (down_ne p 0) (h.imp_right fun ⟨a, b, d⟩ => ⟨a, b, b, d⟩)
          exact sig_sh Z N (t.kid 1) (down_ne p 1) (h1.imp_right fun ⟨a, _, d, e⟩ => ⟨a, d, e⟩)
        · have h1 := foldK_rel (fun (x : Wk × Stt) (x' : Wk × Stt) => x.1.E = 8 ∨ WRs x.1 x'.1 ∧ x'.2 = shS Z x.2 ∧ c)
            (f := fun i k x => declW N x.2 k (down p i) x.1) (f' := fun i k x => declW N x.2 k (down (shP p) i) x.1)
            (fun k i x x' hx => by rw [← shP_down i hp]; exact decl_sh Z N k (down_ne p i) hx) t.kids 0 (w, ⟨s, []⟩) (w', ⟨s', []⟩)
            (h.imp_right fun ⟨a, b, d⟩ => ⟨a, by rw [b]; rfl, d⟩)
          exact h1.imp_right fun ⟨a, b, d⟩ => ⟨a, by rw [b]; rfl, d⟩
theorem decl_sh (Z : List Bd) : ∀ (N : Nat) {c : Prop} {x x' : Stt} (t : Tr) {p : Path} {w w' : Wk}, p ≠ [] → (w.E = 8 ∨ WRs w w' ∧ x' = shS Z x ∧ c) →
    ((declW N x t p w).1.E = 8 ∨ WRs (declW N x t p w).1 (declW N x' t (shP p) w').1 ∧ (declW N x' t (shP p) w').2 = shS Z (declW N x t p w).2 ∧ c)
  | 0, _, _, _, _, _, _, _, _, h => h
  | N + 1, c, x, x', t, p, w, w', hp, h => by
    simp only [declW]
    split
    · rw [← shP_down _ hp, ← shP_down 0 hp]
      refine expr_sh (c := _ ∧ c) Z N _ (down_ne p _) (?_ : _ ∨ _)
      have h1 : (if t.kids.length = 2 then typW N x.S (t.kid 0) (down p 0) w else w).E = 8 ∨ WRs (if t.kids.length = 2 then typW N x.S (t.kid 0) (down p 0) w else w) (if t.kids.length = 2 then typW N x'.S (t.kid 0) (shP (down p 0)) w' else w') ∧ x' = shS Z x ∧ c := by
        split
        · exact typ_sh (c := x' = shS Z x ∧ c) Z N (t.kid 0) (down_ne p 0) (h.imp_right fun ⟨a, b, d⟩ => ⟨a, by rw [b]; rfl, b, d⟩)
        · exact h
      exact h1.imp_right fun ⟨a, b, d⟩ => ⟨a, by rw [b]; rfl, by rw [b]; exact sput_sh Z x _ p [], d⟩
    · split
      · rw [← shP_down 0 hp]
        exact typ_sh (c := _ ∧ c) Z N (t.kid 0) (down_ne p 0) (h.imp_right fun ⟨a, b, d⟩ => ⟨a, by rw [b]; rfl, by rw [b]; exact sput_sh Z x _ p [], d⟩)
      · split
        · exact data_sh Z (N + 1) t hp h
        · split
          · rw [← shP_down 0 hp]
            exact (mod_sh (c := x' = shS Z x ∧ c) Z N (s' := x'.S) (t.kid 0) (down_ne p 0) (h.imp_right fun ⟨a, b, d⟩ => ⟨a, by rw [b]; rfl, b, d⟩)).imp_right
              fun ⟨a, b, d, e⟩ => ⟨a, by rw [b, d]; exact sput_sh Z x _ p _, e⟩
          · split
            · rw [← shP_down 0 hp]
              refine (sig_sh (c := x' = shS Z x ∧ c) Z N (s' := x'.S) (t.kid 0) (down_ne p 0) (h.imp_right fun ⟨a, b, d⟩ => ⟨a, by rw [b]; rfl, b, d⟩)).imp_right
                fun ⟨a, b, d, e⟩ => ⟨a, ?_, e⟩
              rw [b, d]
              simp only [shS, bindB_sh]
            · split
              · rw [← shP_down 0 hp, ← shP_down 1 hp]
                have h1 := sig_sh (c := x' = shS Z x ∧ c) Z N (s' := x'.S) (t.kid 0) (down_ne p 0) (h.imp_right fun ⟨a, b, d⟩ => ⟨a, by rw [b]; rfl, b, d⟩)
                refine (mod_sh (c := x' = shS Z x ∧ c) Z N (t.kid 1) (down_ne p 1) (h1.imp_right fun ⟨a, b, d, e⟩ => ⟨a, ?_, d, e⟩)).imp_right fun ⟨a, b, d, e⟩ => ⟨a, ?_, e⟩
                · rw [b, d]
                  exact bindB_sh Z x.S _ p _
                · rw [b, d]
                  simp only [shS, bindB_sh]
              · refine (refer_sh (c := x' = shS Z x ∧ c) Z (s' := x'.S) (h.imp_right fun ⟨a, b, d⟩ => ⟨a, by rw [b]; rfl, b, d⟩)).imp_right fun ⟨a, b, d, e⟩ => ⟨a, ?_, e⟩
                rw [b, d]
                simp only [shS, bringB_sh]
                split
                · rw [putAll_sh]
                · rfl
end
theorem decl_out (N : Nat) (S : List Bd) (O O' : List Hs) (t : Tr) (p : Path) (w : Wk) :
    (declW N ⟨S, O⟩ t p w).1 = (declW N ⟨S, O'⟩ t p w).1 ∧ (declW N ⟨S, O⟩ t p w).2.S = (declW N ⟨S, O'⟩ t p w).2.S := by
  have hk : ∀ (l : List Tr) (O O' : List Hs) (S : List Bd), (putKids p l ⟨S, O⟩).S = (putKids p l ⟨S, O'⟩).S := by
    intro l
    induction l with
    | nil => intros; rfl
    | cons k l ih => intro O O' S; exact ih _ _ _
  cases N with
  | zero => exact ⟨rfl, rfl⟩
  | succ N =>
    simp only [declW]
    repeat' first
      | exact ⟨rfl, rfl⟩
      | exact ⟨rfl, hk _ _ _ _⟩
      | split
theorem prog_sh {n : Int} {a b : Str} {l : List Tr} (ld : Tr) {N : Nat} (h8 : (progW N (.node 80 n a b l)).E = 0)
    (hld : (declW N ⟨[], []⟩ ld (down [] 0) ⟨[], [], 0⟩).1 = ⟨[], [], 0⟩) {m : Int} {a' b' : Str} :
    (progW N (.node 80 m a' b' (ld :: l))).E = 0 ∧ (progW N (.node 80 m a' b' (ld :: l))).L = (progW N (.node 80 n a b l)).L.map shL := by
  unfold progW at h8 ⊢
  simp only [Tr.kids, foldK] at h8 ⊢
  obtain ⟨Z, hZ⟩ : ∃ Z, (declW N ⟨[], []⟩ ld (down [] 0) ⟨[], [], 0⟩).2.S = Z := ⟨_, rfl⟩
  have key : ∀ (l : List Tr) (i : Nat) (x x' : Wk × Stt), (x.1.E = 8 ∨ WRs x.1 x'.1 ∧ x'.2.S = Z ++ x.2.S.map shB ∧ True) →
      ((foldK (fun i k x => declW N x.2 k (down [] i) x.1) i l x).1.E = 8 ∨ WRs (foldK (fun i k x => declW N x.2 k (down [] i) x.1) i l x).1 (foldK (fun i k x => declW N x.2 k (down [] i) x.1) (i + 1) l x').1) := by
    intro l
    induction l with
    | nil => intro i x x' h; exact h.imp_right fun ⟨a, _⟩ => a
    | cons k l ih =>
      intro i x x' h
      refine ih (i + 1) _ _ ?_
      have hd : shP (down [] i) = down [] (i + 1) := by simp [down, shP]
      simp only
      rw [← hd]
      obtain ⟨w', S', O'⟩ := x'
      simp only
      have ho := decl_out N S' O' (shHs x.2.Out) k (shP (down [] i)) w'
      rw [ho.1, ho.2]
      refine (decl_sh (c := True) (x' := ⟨S', shHs x.2.Out⟩) Z N k (down_ne [] i) (h.imp_right fun ⟨a, b, d⟩ => ⟨a, ?_, d⟩)).imp_right fun ⟨a, b, d⟩ => ⟨a, by rw [b]; rfl, d⟩
      simp only at b
      subst b
      rfl
  have := key l 0 (⟨[], [], 0⟩, ⟨[], []⟩) (declW N ⟨[], []⟩ ld (down [] 0) ⟨[], [], 0⟩) (.inr ⟨⟨rfl, by rw [hld], by rw [hld]; rfl⟩, by simpa using hZ, trivial⟩)
  rcases this with h | ⟨h1, h2, h3⟩
  · rw [h8] at h; exact absurd h (by decide)
  · exact ⟨h2, h3⟩
end Go.Av
set_option linter.unusedSectionVars false
namespace Go.Av
structure Pr where
  fr : Path
  tt : Path
def fitsB (t q : Path) : Bool := decide (t.length ≤ q.length) && decide (q.take t.length = t)
def bestI (ps : List Pr) (q : Path) : List Pr → Nat → Int → Int
  | [], _, r => r
  | x :: l, i, r => bestI ps q l (i + 1) (if fitsB x.tt q = true ∧ (r < 0 ∨ (ps.getD r.toNat ⟨[], []⟩).tt.length ≤ x.tt.length) then (i : Int) else r)
def bestB (ps : List Pr) (q : Path) : Int := bestI ps q ps 0 (-1)
def backB (ps : List Pr) (q : Path) : Option Path :=
  if bestB ps q < 0 then none else some ((ps.getD (bestB ps q).toNat ⟨[], []⟩).fr ++ q.drop (ps.getD (bestB ps q).toNat ⟨[], []⟩).tt.length)
def sameB (ps : List Pr) (o k : Lk) : Bool :=
  decide (o.space = k.space) && decide (o.rest = k.rest) && decide (o.at' = [] ↔ k.at' = []) && decide (backB ps k.site = some o.site) &&
    (if k.at' = [] then decide (o.name = k.name) else decide (backB ps k.at' = some o.at'))
def pickI (f : Lk → Bool) : List Lk → List Bool → Nat → Option Nat
  | o :: l, u :: us, i => if !u && f o then some i else pickI f l us (i + 1)
  | _, _, _ => none
def agreeU (S : Lk → Lk → Bool) (old : List Lk) : List Lk → List Bool → Bool
  | [], _ => true
  | k :: now, us => match pickI (fun o => S o k) old us 0 with
    | none => false
    | some i => agreeU S old now (us.set i true)
def agreeB (ps : List Pr) (old now : List Lk) : Bool := decide (old.length = now.length) && agreeU (sameB ps) old now (List.replicate old.length false)
theorem bestI_range (ps : List Pr) (q : Path) : ∀ (l : List Pr) (i : Nat) (r : Int), -1 ≤ r → r < i → -1 ≤ bestI ps q l i r ∧ bestI ps q l i r < (i + l.length : Nat)
  | [], i, r, h, h2 => ⟨h, by simpa [bestI] using h2⟩
  | x :: l, i, r, h, h2 => by
    simp only [bestI, List.length_cons]
    have := bestI_range ps q l (i + 1) (if fitsB x.tt q = true ∧ (r < 0 ∨ (ps.getD r.toNat ⟨[], []⟩).tt.length ≤ x.tt.length) then (i : Int) else r) (by split <;> omega) (by split <;> omega)
    omega
theorem bestB_range (ps : List Pr) (q : Path) : -1 ≤ bestB ps q ∧ bestB ps q < ps.length := by
  have := bestI_range ps q ps 0 (-1) (by omega) (by omega)
  simpa [bestB] using this
section keys
variable {κ : Type} [DecidableEq κ]
def freeK (K : Lk → κ) : List Lk → List Bool → List κ
  | o :: l, u :: us => if u then freeK K l us else K o :: freeK K l us
  | _, _ => []
theorem freeK_all (K : Lk → κ) : ∀ l : List Lk, freeK K l (List.replicate l.length false) = l.map K
  | [] => rfl
  | o :: l => by simp only [List.length_cons, List.replicate_succ, freeK, Bool.false_eq_true, if_false, List.map_cons, freeK_all K l]
theorem pickI_free (K : Lk → κ) {f : Lk → Bool} {c : κ} : ∀ (l : List Lk) (us : List Bool) (i : Nat), (∀ o ∈ l, f o = decide (K o = c)) → us.length = l.length → c ∈ freeK K l us →
    ∃ j, pickI f l us i = some (i + j) ∧ j < l.length ∧ (freeK K l (us.set j true)).Perm ((freeK K l us).erase c)
  | [], [], i, _, _, h => by simp [freeK] at h
  | o :: l, u :: us, i, hf, hl, h => by
    simp only [List.length_cons, Nat.add_right_cancel_iff] at hl
    have hf0 := hf o (.head _)
    have hfl : ∀ x ∈ l, f x = decide (K x = c) := fun x hx => hf x (.tail _ hx)
    by_cases hu : u = true
    · subst hu
      simp only [freeK, if_true] at h
      obtain ⟨j, h1, h2, h3⟩ := pickI_free K l us (i + 1) hfl hl h
      refine ⟨j + 1, by simp only [pickI, Bool.not_true, Bool.false_and, Bool.false_eq_true, if_false, h1]; congr 1; omega, by simp; omega, ?_⟩
      simp only [List.set_cons_succ, freeK, if_true]
      exact h3
    · have hu : u = false := by simpa using hu
      subst hu
      simp only [freeK, Bool.false_eq_true, if_false] at h ⊢
      by_cases hk : K o = c
      · refine ⟨0, by simp [pickI, hf0, hk], by simp, ?_⟩
        simp only [List.set_cons_zero, freeK, if_true, hk, List.erase_cons_head]
        exact List.Perm.refl _
      · have hm : c ∈ freeK K l us := by
          rcases List.mem_cons.1 h with h | h
          · exact absurd h.symm hk
          · exact h
        obtain ⟨j, h1, h2, h3⟩ := pickI_free K l us (i + 1) hfl hl hm
        refine ⟨j + 1, by simp only [pickI, Bool.not_false, Bool.true_and, hf0, hk, decide_false, Bool.false_eq_true, if_false, h1]; congr 1; omega, by simp; omega, ?_⟩
        simp only [List.set_cons_succ, freeK, Bool.false_eq_true, if_false]
        rw [List.erase_cons_tail (by simpa using hk)]
        exact List.Perm.cons _ h3
theorem agreeU_key {S : Lk → Lk → Bool} (K : Lk → κ) (g : Lk → Lk) {old : List Lk} : ∀ (now : List Lk) (us : List Bool), (∀ o ∈ old, ∀ k ∈ now, S o (g k) = decide (K o = K k)) → us.length = old.length →
    (freeK K old us).Perm (now.map K) → agreeU S old (now.map g) us = true
  | [], _, _, _, _ => rfl
  | k :: now, us, hS, hl, hp => by
    have hm : K k ∈ freeK K old us := hp.mem_iff.2 (.head _)
    obtain ⟨j, h1, h2, h3⟩ := pickI_free K (f := fun o => S o (g k)) old us 0 (fun o ho => hS o ho k (.head _)) hl hm
    simp only [List.map_cons, agreeU, h1, Nat.zero_add]
    refine agreeU_key K g now _ (fun o ho x hx => hS o ho x (.tail _ hx)) (by simpa using hl) (h3.trans ?_)
    have := hp.erase (K k)
    simpa using this
end keys
def keyL (k : Lk) : Str × List Str × Path × Path × Str := (k.space, k.rest, k.site, k.at', if k.at' = [] then k.name else [])
theorem sameB_key {ps : List Pr} {o k' : Lk} {g : Path → Path} {k : Lk} (hg : k' = ⟨g k.at', k.space, k.name, g k.site, k.rest⟩) (hs : backB ps (g k.site) = some k.site)
    (hat : backB ps (g k.at') = some k.at') (hn : g k.at' = [] ↔ k.at' = []) : sameB ps o k' = decide (keyL o = keyL k) := by
  subst hg
  unfold sameB keyL
  simp only [hs, hat, hn, Option.some.injEq, Prod.mk.injEq]
  rw [Bool.eq_iff_iff]
  simp only [Bool.and_eq_true, decide_eq_true_eq]
  by_cases hk : k.at' = []
  · simp only [hk, if_true, iff_true, decide_eq_true_eq]
    constructor
    · rintro ⟨⟨⟨⟨h1, h2⟩, h3⟩, h4⟩, h5⟩
      exact ⟨h1, h2, h4.symm, h3, by rw [if_pos h3]; exact h5⟩
    · rintro ⟨h1, h2, h3, h4, h5⟩
      rw [if_pos h4] at h5
      exact ⟨⟨⟨⟨h1, h2⟩, h4⟩, h3.symm⟩, h5⟩
  · simp only [hk, if_false, iff_false, decide_eq_true_eq]
    constructor
    · rintro ⟨⟨⟨⟨h1, h2⟩, h3⟩, h4⟩, h5⟩
      exact ⟨h1, h2, h4.symm, h5.symm, by rw [if_neg h3]⟩
    · rintro ⟨h1, h2, h3, h4, h5⟩
      exact ⟨⟨⟨⟨h1, h2⟩, by rw [h4]; exact hk⟩, h3.symm⟩, h4.symm⟩
theorem backB_id (q : Path) : backB [⟨[], []⟩] q = some q := by
  simp [backB, bestB, bestI, fitsB]
theorem agree_self (l : List Lk) : agreeB [⟨[], []⟩] l l = true := by
  unfold agreeB
  rw [Bool.and_eq_true]
  refine ⟨by simp, by
    have := agreeU_key (S := sameB [⟨[], []⟩]) keyL id (old := l) l (List.replicate l.length false) (fun o _ k _ => ?_) (by simp) (by rw [freeK_all])
    · rwa [List.map_id] at this
    exact sameB_key (g := id) rfl (backB_id _) (backB_id _) Iff.rfl⟩
def pairsN (n : Nat) : List Pr := (List.range n).map fun (i : Nat) => ⟨[(i : Int)], [(i : Int) + 1]⟩
theorem bestI_pairs {ps : List Pr} {j : Nat} {p : Path} : ∀ (m i : Nat) (r : Int), (r = if j < i then (j : Int) else -1) →
    bestI ps (((j : Int) + 1) :: p) ((List.range' i m).map fun (i : Nat) => ⟨[(i : Int)], [(i : Int) + 1]⟩) i r = if j < i + m then (j : Int) else -1
  | 0, i, r, h => by simp [bestI, h]
  | m + 1, i, r, h => by
    simp only [List.range'_succ, List.map_cons, bestI]
    rw [bestI_pairs m (i + 1) _ ?_]
    · congr 1; simp only [eq_iff_iff]; omega
    · subst h
      have hf : fitsB [(i : Int) + 1] (((j : Int) + 1) :: p) = decide (j = i) := by
        unfold fitsB
        rw [Bool.eq_iff_iff]
        simp only [List.length_cons, List.length_nil, Nat.zero_add, Nat.le_add_left, decide_true, Bool.true_and, List.take_succ_cons, List.take_zero, List.cons.injEq, and_true, decide_eq_true_eq]
        omega
      simp only [hf, decide_eq_true_eq]
      by_cases hji : j = i
      · subst hji
        rw [if_pos ⟨rfl, .inl (by simp)⟩, if_pos (by omega)]
      · rw [if_neg (fun h => hji h.1)]
        by_cases h2 : j < i
        · rw [if_pos h2, if_pos (by omega)]
        · rw [if_neg h2, if_neg (by omega)]
theorem backB_pairs {n j : Nat} {p : Path} (h : j < n) : backB (pairsN n) (((j : Int) + 1) :: p) = some ((j : Int) :: p) := by
  have hb : bestB (pairsN n) (((j : Int) + 1) :: p) = j := by
    unfold bestB
    have := bestI_pairs (ps := pairsN n) (j := j) (p := p) n 0 (-1) (by simp)
    rw [← List.range_eq_range'] at this
    rw [show pairsN n = (List.range n).map fun (i : Nat) => (⟨[(i : Int)], [(i : Int) + 1]⟩ : Pr) from rfl] at this ⊢
    rw [this, if_pos (by omega)]
  unfold backB
  rw [hb, if_neg (by omega)]
  have hg : (pairsN n).getD (j : Int).toNat ⟨[], []⟩ = ⟨[(j : Int)], [(j : Int) + 1]⟩ := by
    simp [pairsN, List.getD, h]
  rw [hg]
  simp
theorem agree_shift {n : Nat} {l : List Lk} (h : ∀ k ∈ l, (∃ j : Nat, ∃ p, j < n ∧ k.at' = (j : Int) :: p) ∧ ∃ j : Nat, ∃ p, j < n ∧ k.site = (j : Int) :: p) : agreeB (pairsN n) l (l.map shL) = true := by
  have hb : ∀ q : Path, (∃ j : Nat, ∃ p, j < n ∧ q = (j : Int) :: p) → backB (pairsN n) (shP q) = some q ∧ (shP q = [] ↔ q = []) := by
    rintro q ⟨j, p, hj, rfl⟩
    exact ⟨backB_pairs hj, by simp [shP]⟩
  unfold agreeB
  rw [Bool.and_eq_true]
  exact ⟨by simp, agreeU_key keyL shL l _ (fun o _ k hk => sameB_key (g := shP) rfl (hb _ (h k hk).2).1 (hb _ (h k hk).1).1 (hb _ (h k hk).1).2) (by simp) (by rw [freeK_all])⟩
end Go.Av
namespace Go.Av
open Go.RowKit (Below)
section
variable {P : Program} {W0 : World}
theorem SF.anywhere {f : FuncId} {args : List AV} {H : Hp} {r : AV} (hr : cln 0 0 r = r) (hargs : ∀ g g' w (vs : List Value), AR g w args vs → AR g' w args vs)
    (h : ∀ W, SF P W f args ⟨[], []⟩ fun x _ => x = r) : SF P W0 f args H fun x H' => H' = H ∧ x = r := by
  intro g w vs inv har
  have i0 : WInv w ⟨fun _ => 0, fun _ => false, fun _ => none, fun _ _ => none⟩ ⟨[], []⟩ w :=
    ⟨fun _ _ => rfl, Nat.le_refl _, rfl, rfl, rfl, fun _ _ => rfl, fun _ _ => rfl, fun b hb => (by cases hb), fun r b hb => (by cases hb), fun _ _ => rfl, fun _ _ _ hb => (by cases hb), fun r o ho => (by simp at ho),
      fun _ _ _ _ hv => (by cases hv), fun _ _ _ => rfl, fun t m n hm => (by simp at hm), fun t n hn => (by simp at hn), fun t t' n n' b x x' hn => (by simp at hn)⟩
  refine (h w _ w vs i0 (hargs g _ w _ har)).mono ?_
  rintro e w' ⟨v, g', x, H0, rfl, rfl, ext, i, hv⟩
  have vc := VR.cut (n := 0) (m := 0) x v hv
  rw [hr] at vc
  have hb : Below w.heap.size w w' := Below.of i
  obtain ⟨ib, eb⟩ := inv.below hb
  obtain ⟨g2, hg2⟩ : ∃ g2 : Gh, g2 = ⟨fun b => if b < w.heap.size then g.pub b else g'.pub b, fun b => if b < w.heap.size then g.fro b else g'.fro b, g.loc, g.ver⟩ := ⟨_, rfl⟩
  have p1 : ∀ b, b < w.heap.size → g2.pub b = g.pub b := fun b hb => by rw [hg2]; simp only [if_pos hb]
  have p2 : ∀ b, w.heap.size ≤ b → g2.pub b = g'.pub b := fun b hb => by rw [hg2]; simp only [if_neg (Nat.not_lt.2 hb)]
  have f1 : ∀ b, b < w.heap.size → g2.fro b = g.fro b := fun b hb => by rw [hg2]; simp only [if_pos hb]
  have f2 : ∀ b, w.heap.size ≤ b → g2.fro b = g'.fro b := fun b hb => by rw [hg2]; simp only [if_neg (Nat.not_lt.2 hb)]
  have l1 : g2.loc = g.loc := by rw [hg2]
  have v1 : g2.ver = g.ver := by rw [hg2]
  clear hg2
  have e1 : Ext (g'.cut 0 0) w' g2 w' := by
    refine ⟨Nat.le_refl _, fun b => ?_, fun _ _ _ _ h => h, fun b hb => ?_, fun _ _ => rfl, fun r b hb => ?_, fun t n x hx => ?_⟩
    · rcases Nat.lt_or_ge b w.heap.size with q | q
      · have : (g'.cut 0 0).pub b = 0 := i.pubOld b q
        omega
      · rw [p2 b q]; exact Nat.le_refl _
    · have hb' : g'.fro b = true := hb
      rw [f2 b (i.fro b hb').1]; exact hb'
    · simp [Gh.cut] at hb
    · simp [Gh.cut] at hx
  have ew : ∀ b, g.pub b ≤ g2.pub b := fun b => by
    rcases Nat.lt_or_ge b w.heap.size with q | q
    · rw [p1 b q]; exact Nat.le_refl _
    · rw [inv.pubNew b q]; exact Nat.zero_le _
  have fw : ∀ b, g.fro b = true → g2.fro b = true := fun b hb => by rw [f1 b (inv.fro b hb).2.1]; exact hb
  have e2 : Ext g w g2 w' := ⟨eb.size, ew, eb.cell, fw, eb.froz, fun r b hb => by rw [l1]; exact hb, fun t n x hx => by rw [v1]; exact hx⟩
  have e3 : Ext g w' g2 w' := ⟨Nat.le_refl _, ew, fun _ _ _ _ h => h, fw, fun _ _ => rfl, fun r b hb => by rw [l1]; exact hb, fun t n x hx => by rw [v1]; exact hx⟩
  have i2 : WInv W0 g2 H w' := by
    refine ⟨ib.base, ib.size, ib.os, ib.out, ib.tape, fun b hb => ?_, fun b hb => ?_, fun b hb => ?_, by rw [l1]; exact ib.locIn, by rw [l1]; exact ib.locNew, by rw [l1]; exact ib.inj, fun r o ho => ?_, by rw [v1]; exact ib.verIn, by rw [v1]; exact ib.verNew, by rw [v1]; exact ib.verHi, fun t n hn => ?_, by rw [v1]; exact ib.tokInj⟩
    · rw [p1 b (Nat.lt_of_lt_of_le hb inv.size)]; exact inv.pubOld b hb
    · rw [p2 b (Nat.le_trans eb.size hb)]; exact i.pubNew b hb
    · rcases Nat.lt_or_ge b w.heap.size with q | q
      · rw [f1 b q] at hb; exact ib.fro b hb
      · rw [f2 b q] at hb
        obtain ⟨h1, h2, h3⟩ := i.fro b hb
        exact ⟨Nat.le_trans inv.size h1, h2, h3⟩
    · refine (ib.obj r o ho).keep e3 fun b hl => ?_
      have hlt := (inv.locIn r b hl).2
      exact ⟨rfl, fun hz => (p1 b hlt).trans hz, fun hz => (f1 b hlt).trans hz⟩
    · refine (ib.tok t n hn).keep e3 fun b x hx => ?_
      have hlt := (inv.verIn t n b x hx).2
      exact ⟨rfl, p1 b hlt, fun r hr => by rw [l1]; exact hr⟩
  exact ⟨v, g2, x, H, rfl, ⟨rfl, rfl⟩, e2, i2, VR.mono e1 x v vc⟩
theorem str_args {s : List UInt8} (g g' : Gh) (w : World) (vs : List Value) (h : AR g w [.str s] vs) : AR g' w [.str s] vs := by
  obtain ⟨v, vs', e, h1, h2⟩ := h
  exact ⟨v, vs', e, h1, h2⟩
end
end Go.Av
