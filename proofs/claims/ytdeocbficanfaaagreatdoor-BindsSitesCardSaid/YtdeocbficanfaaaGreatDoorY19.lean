/-
  Go read by value: lemmas (part 19): M1, M3, D19, M2.
-/
import Derived.Test.YtdeocbficanfaaaGreatDoorY17
import Derived.Test.YtdeocbficanfaaaGreatDoorY18
set_option linter.unusedVariables false
set_option linter.unusedSimpArgs false
set_option linter.unusedSectionVars false
namespace Go.Av
inductive HsOK (U : List Str) : List Hs → Prop
  | mk {l : List Hs} (hn : (l.map Hs.label).Nodup) (hu : ∀ h ∈ l, h.label ∈ U) (h2 : ∀ h ∈ l, 2 ≤ h.label.length) (h3 : ∀ h ∈ l, h.label.length ≤ 200)
      (hs : ∀ h ∈ l, h.site.length ≤ 10000) (hk : ∀ h ∈ l, HsOK U h.ins) : HsOK U l
structure BdOK (U : List Str) (b : Bd) : Prop where
  lo : 2 ≤ b.label.length
  hi : b.label.length ≤ 200
  site : b.site.length ≤ 10000
  ins : HsOK U b.ins
def SOK (U : List Str) (s : List Bd) : Prop := ∀ b ∈ s, BdOK U b
theorem HsOK.nodup {U : List Str} {l : List Hs} : HsOK U l → (l.map Hs.label).Nodup | .mk h _ _ _ _ _ => h
theorem HsOK.inU {U : List Str} {l : List Hs} : HsOK U l → ∀ h ∈ l, h.label ∈ U | .mk _ h _ _ _ _ => h
theorem HsOK.lo {U : List Str} {l : List Hs} : HsOK U l → ∀ h ∈ l, 2 ≤ h.label.length | .mk _ _ h _ _ _ => h
theorem HsOK.hi {U : List Str} {l : List Hs} : HsOK U l → ∀ h ∈ l, h.label.length ≤ 200 | .mk _ _ _ h _ _ => h
theorem HsOK.site {U : List Str} {l : List Hs} : HsOK U l → ∀ h ∈ l, h.site.length ≤ 10000 | .mk _ _ _ _ h _ => h
theorem HsOK.ins {U : List Str} {l : List Hs} : HsOK U l → ∀ h ∈ l, HsOK U h.ins | .mk _ _ _ _ _ h => h
theorem HsOK.nil {U : List Str} : HsOK U [] := .mk (by simp) (by simp) (by simp) (by simp) (by simp) (by simp)
theorem length_le_of_nodup {α : Type} [DecidableEq α] : ∀ {l U : List α}, l.Nodup → (∀ x ∈ l, x ∈ U) → l.length ≤ U.length
  | [], _, _, _ => Nat.zero_le _
  | x :: l, U, hn, hu => by
    have hx : x ∈ U := hu x (.head _)
    have hn' := List.nodup_cons.1 hn
    have := length_le_of_nodup (l := l) (U := U.erase x) hn'.2 fun y hy => by
      have hne : y ≠ x := fun e => hn'.1 (e ▸ hy)
      exact (List.mem_erase_of_ne hne).2 (hu y (.tail _ hy))
    rw [List.length_erase_of_mem hx] at this
    have hpos : 0 < U.length := List.length_pos_of_mem hx
    simp only [List.length_cons]
    omega
theorem HsOK.len {U : List Str} {l : List Hs} (h : HsOK U l) : l.length ≤ U.length := by
  have := length_le_of_nodup (l := l.map Hs.label) (U := U) h.nodup fun x hx => by
    obtain ⟨k, hk, rfl⟩ := List.mem_map.1 hx
    exact h.inU k hk
  simpa using this
theorem put_ok {U : List Str} {l : List Hs} {k : Hs} (h : HsOK U l) (hu : k.label ∈ U) (h2 : 2 ≤ k.label.length) (h3 : k.label.length ≤ 200) (hs : k.site.length ≤ 10000) (hk : HsOK U k.ins) : HsOK U (put l k) := by
  have mem : ∀ x ∈ put l k, x = k ∨ x ∈ l := fun x hx => by
    rcases List.mem_append.1 hx with h | h
    · exact .inr (List.mem_filter.1 h).1
    · exact .inl (List.mem_singleton.1 h)
  have all : ∀ p : Hs → Prop, p k → (∀ x ∈ l, p x) → ∀ x ∈ put l k, p x := fun p pk pl x hx => by
    rcases mem x hx with rfl | h
    · exact pk
    · exact pl x h
  refine .mk ?_ (all _ hu h.inU) (all _ h2 h.lo) (all _ h3 h.hi) (all _ hs h.site) (all _ hk h.ins)
  unfold put
  rw [List.map_append, List.nodup_append]
  refine ⟨?_, by simp, ?_⟩
  · have := h.nodup
    rw [List.nodup_iff_pairwise_ne, List.pairwise_map] at this ⊢
    exact this.filter _
  · intro a ha b hb
    simp only [List.map_cons, List.map_nil, List.mem_singleton] at hb
    subst hb
    obtain ⟨x, hx, rfl⟩ := List.mem_map.1 ha
    have := (List.mem_filter.1 hx).2
    simpa using this
theorem put_len (l : List Hs) (k : Hs) : (put l k).length ≤ l.length + 1 := by
  unfold put
  have := List.length_filter_le (fun h : Hs => !(h.label == k.label)) l
  simp; omega
theorem giveH_ok {U : List Str} {h : Hs} {p : Path} (hp : p.length ≤ 10000) {l k : List Hs} (hl : HsOK U l) (hk : HsOK U k) (hm : h ∈ k) : HsOK U (put l (giveH p h)) :=
  put_ok hl (hk.inU h hm) (hk.lo h hm) (hk.hi h hm) hp (hk.ins h hm)
theorem HsOK.tail {U : List Str} {h : Hs} {k : List Hs} (hk : HsOK U (h :: k)) : HsOK U k :=
  .mk (by have := hk.nodup; simp only [List.map_cons, List.nodup_cons] at this; exact this.2) (fun x hx => hk.inU x (.tail _ hx)) (fun x hx => hk.lo x (.tail _ hx)) (fun x hx => hk.hi x (.tail _ hx)) (fun x hx => hk.site x (.tail _ hx)) (fun x hx => hk.ins x (.tail _ hx))
theorem putAll_ok {U : List Str} {p : Path} (hp : p.length ≤ 10000) : ∀ {k l : List Hs}, HsOK U l → HsOK U k → HsOK U (putAll l k p)
  | [], _, h, _ => h
  | h :: k, l, hl, hk => show HsOK U (putAll (put l (giveH p h)) k p) from putAll_ok hp (giveH_ok hp hl hk (.head _)) hk.tail
theorem bindB_ok {U : List Str} {s : List Bd} {x : Str} {p : Path} {ins : List Hs} (hs : SOK U s) (h2 : 2 ≤ x.length) (h3 : x.length ≤ 200) (hp : p.length ≤ 10000) (hi : HsOK U ins) : SOK U (bindB s x p ins) := fun b hb => by
  rcases List.mem_append.1 hb with h | h
  · exact hs b h
  · rw [List.mem_singleton.1 h]; exact ⟨h2, h3, hp, hi⟩
theorem bringB_ok {U : List Str} {s : List Bd} {p : Path} {ins : List Hs} (hs : SOK U s) (hp : p.length ≤ 10000) (hi : HsOK U ins) : SOK U (bringB s ins p) := fun b hb => by
  rcases List.mem_append.1 hb with h | h
  · exact hs b h
  · obtain ⟨k, hk, rfl⟩ := List.mem_map.1 h
    exact ⟨hi.lo k hk, hi.hi k hk, hp, hi.ins k hk⟩
theorem goIn_ok {U : List Str} {sp : Str} : ∀ {l : List Str} {h h' : List Hs}, HsOK U h → goIn sp l h = some h' → HsOK U h'
  | [], h, h', hk, e => by simp only [goIn] at e; cases e; exact hk
  | x :: r, h, h', hk, e => by
    simp only [goIn] at e
    split at e
    · cases e
    · rename_i k hf
      exact goIn_ok (hk.ins k (findL_some hf).1) e
theorem one_ok {U : List Str} {s : List Bd} {p : Path} {sp long : Str} {k : Lk} {h : List Hs} (hs : SOK U s) (e : one s p sp long = some (k, h)) : HsOK U h := by
  unfold one at e
  split at e
  · cases e
  · split at e
    · cases e
    · rename_i b hb
      split at e
      · cases e
      · rename_i h' hg
        cases e
        exact goIn_ok (hs b (findL_some hb).1).ins hg
theorem refer_ok {U : List Str} {w : Wk} {s : List Bd} {p : Path} {sp long : Str} (hs : SOK U s) : HsOK U (refer w s p sp long).2 := by
  unfold refer
  split
  · exact .nil
  · rename_i k h e; exact one_ok hs e
theorem refer_L (w : Wk) (s : List Bd) (p : Path) (sp long : Str) : (refer w s p sp long).1.L.length ≤ w.L.length + 1 ∧ (refer w s p sp long).1.X = w.X := by
  unfold refer
  split <;> simp
def labK (k : Int) (a : Str) : List Str :=
  if k = 60 ∨ k = 70 ∨ k = 8 then [118 :: 58 :: a] else if k = 61 ∨ k = 62 ∨ k = 71 ∨ k = 72 then [116 :: 58 :: a] else if k = 63 ∨ k = 73 then [109 :: 58 :: a] else []
mutual
def Tr.labs : Tr → List Str
  | .none => []
  | .node k _ a _ l => labK k a ++ Tr.labss l
def Tr.labss : List Tr → List Str
  | [] => []
  | t :: l => t.labs ++ Tr.labss l
end
theorem labK_len (k : Int) (a : Str) : (labK k a).length ≤ 1 := by unfold labK; (repeat' split) <;> simp
mutual
theorem labs_len : ∀ t : Tr, t.labs.length ≤ t.cnt
  | .none => Nat.le_refl _
  | .node k _ a _ l => by have := labss_len l; have := labK_len k a; simp only [Tr.labs, Tr.cnt, List.length_append]; omega
theorem labss_len : ∀ l : List Tr, (Tr.labss l).length ≤ Tr.cnts l
  | [] => Nat.le_refl _
  | t :: l => by have := labs_len t; have := labss_len l; simp only [Tr.labss, Tr.cnts, List.length_append]; omega
end
def InU (U : List Str) (t : Tr) : Prop := ∀ x ∈ t.labs, x ∈ U
def InUs (U : List Str) (l : List Tr) : Prop := ∀ x ∈ Tr.labss l, x ∈ U
theorem InUs.head {U : List Str} {t : Tr} {l : List Tr} (h : InUs U (t :: l)) : InU U t := fun x hx => h x (by simp [Tr.labss, hx])
theorem InUs.tail {U : List Str} {t : Tr} {l : List Tr} (h : InUs U (t :: l)) : InUs U l := fun x hx => h x (by simp [Tr.labss, hx])
theorem InUs.mem {U : List Str} : ∀ {l : List Tr}, InUs U l → ∀ t ∈ l, InU U t
  | t :: l, h, x, hx => by
    rcases List.mem_cons.1 hx with rfl | hx
    · exact h.head
    · exact h.tail.mem x hx
theorem InU.kids {U : List Str} {k n : Int} {a b : Str} {l : List Tr} (h : InU U (.node k n a b l)) : InUs U l := fun x hx => h x (by simp [Tr.labs, hx])
theorem InU.self {U : List Str} {k n : Int} {a b : Str} {l : List Tr} (h : InU U (.node k n a b l)) : ∀ x ∈ labK k a, x ∈ U := fun x hx => h x (by simp [Tr.labs, hx])
theorem foldK_cost {σ : Type} {f : Nat → Tr → σ → σ} (R : Nat → σ → Prop) : ∀ (l : List Tr) (i c : Nat) (x : σ), (∀ t ∈ l, ∀ j c x, R c x → R (c + t.cnt) (f j t x)) → R c x → R (c + Tr.cnts l) (foldK f i l x)
  | [], _, _, _, _, h => h
  | t :: l, i, c, x, hs, h => by
    have := foldK_cost R l (i + 1) (c + t.cnt) (f i t x) (fun u hu => hs u (.tail _ hu)) (hs t (.head _) i c x h)
    simpa only [Tr.cnts, foldK, Nat.add_assoc] using this
def LenOK (w w' : Wk) (c : Nat) : Prop := w'.L.length ≤ w.L.length + c ∧ w'.X = w.X
theorem LenOK.refl (w : Wk) (c : Nat) : LenOK w w c := ⟨by omega, rfl⟩
theorem LenOK.trans {w w' w'' : Wk} {c d : Nat} (h : LenOK w w' c) (k : LenOK w' w'' d) : LenOK w w'' (c + d) := ⟨by have := h.1; have := k.1; omega, k.2.trans h.2⟩
theorem LenOK.mono {w w' : Wk} {c d : Nat} (h : LenOK w w' c) (k : c ≤ d) : LenOK w w' d := ⟨by have := h.1; omega, h.2⟩
theorem typW_len : ∀ (N : Nat) (s : List Bd) (t : Tr) (p : Path) (w : Wk), LenOK w (typW N s t p w) t.cnt
  | 0, _, _, _, w => .refl _ _
  | N + 1, s, .none, p, w => by simp [typW, Tr.kids, foldK, Tr.kind, Tr.cnt, LenOK]
  | N + 1, s, .node k n a b l, p, w => by
    simp only [typW, Tr.kids, Tr.cnt, Tr.kind]
    have h0 : LenOK w (if k = 4 then (refer w s p [116] (Tr.node k n a b l).name).1 else w) 1 := by
      split
      · exact refer_L ..
      · exact .refl _ _
    exact foldK_cost (fun c x => LenOK w x c) l 0 1 _ (fun t _ j c x h => h.trans (typW_len N _ t _ x)) h0
theorem exprW_len : ∀ (N : Nat) (s : List Bd) (t : Tr) (p : Path) (w : Wk), LenOK w (exprW N s t p w) t.cnt
  | 0, _, _, _, w => .refl _ _
  | N + 1, s, .none, p, w => by simp [exprW, Tr.kids, foldK, Tr.kind, Tr.cnt, LenOK]
  | N + 1, s, .node k n a b l, p, w => by
    simp only [exprW, Tr.kids, Tr.cnt, Tr.kind]
    have h0 : LenOK w (if k = 23 then (refer w s p [118] (Tr.node k n a b l).name).1 else w) 1 := by
      split
      · exact refer_L ..
      · exact .refl _ _
    refine foldK_cost (fun c x => LenOK w x c) l 0 1 _ (fun t _ j c x h => ?_) h0
    by_cases hc : k = 24 ∧ j = 0 ∨ k = 33 ∧ j = 1
    · simp only [hc, if_true]; exact h.trans (typW_len N _ t _ x)
    · simp only [hc, if_false]; exact h.trans (exprW_len N _ t _ x)
theorem TyW.len {t : Tr} (h : TyW t) : t.name.length ≤ 128 := by cases h; assumption
theorem longB_len {a : Str} (h : longB a = true) : a.length ≤ 128 := by
  unfold longB at h
  simp only [Bool.and_eq_true, decide_eq_true_eq] at h
  exact h.1
theorem down_len (p : Path) (i : Nat) : (down p i).length = p.length + 1 := by simp [down]
structure SttOK (U : List Str) (x x' : Stt) (c : Nat) : Prop where
  s : SOK U x'.S
  o : HsOK U x'.Out
  len : x'.S.length ≤ x.S.length + (U.length + 1) * c
theorem SttOK.refl {U : List Str} {x : Stt} (hs : SOK U x.S) (ho : HsOK U x.Out) (c : Nat) : SttOK U x x c := ⟨hs, ho, by omega⟩
theorem SttOK.put {U : List Str} {x x' : Stt} {c d : Nat} {lab : Str} {p : Path} {ins : List Hs} (h : SttOK U x x' c) (hd : c + 1 ≤ d) (hu : lab ∈ U) (h2 : 2 ≤ lab.length) (h3 : lab.length ≤ 200) (hp : p.length ≤ 10000) (hi : HsOK U ins) : SttOK U x (x'.put lab p ins) d := by
  refine ⟨bindB_ok h.s h2 h3 hp hi, put_ok h.o hu h2 h3 hp hi, ?_⟩
  have := h.len
  have e : (U.length + 1) * (c + 1) = (U.length + 1) * c + (U.length + 1) := Nat.mul_succ _ _
  have : (U.length + 1) * (c + 1) ≤ (U.length + 1) * d := Nat.mul_le_mul_left _ hd
  simp only [Stt.put, bindB, List.length_append, List.length_singleton]
  omega
theorem SttOK.mono {U : List Str} {x x' : Stt} {c d : Nat} (h : SttOK U x x' c) (hd : c ≤ d) : SttOK U x x' d :=
  ⟨h.s, h.o, Nat.le_trans h.len (Nat.add_le_add_left (Nat.mul_le_mul_left _ hd) _)⟩
theorem SttOK.trans {U : List Str} {x x' x'' : Stt} {c d : Nat} (h : SttOK U x x' c) (k : SttOK U x' x'' d) : SttOK U x x'' (c + d) :=
  ⟨k.s, k.o, by have := h.len; have := k.len; have e : (U.length + 1) * (c + d) = (U.length + 1) * c + (U.length + 1) * d := Nat.mul_add _ _ _; omega⟩
theorem putKids_ok {U : List Str} {p : Path} (hp : p.length ≤ 10000) : ∀ {l : List Tr} {x x' : Stt} {c : Nat}, SttOK U x x' c → (∀ t ∈ l, t.kind = 8) → (∀ t ∈ l, t.name.length ≤ 128) → InUs U l → SttOK U x (putKids p l x') (c + l.length)
  | [], _, _, _, h, _, _, _ => h
  | t :: l, x, x', c, h, h8, hn, hu => by
    have h1 : (118 :: 58 :: t.name) ∈ U := by
      have := h8 t (.head _)
      cases t with
      | none => simp [Tr.kind] at this
      | node k n a b ks =>
        have hk : k = 8 := this
        exact hu.head.self _ (by simp [labK, hk, Tr.name])
    have := hn t (.head _)
    have := putKids_ok hp (h.put (d := c + 1) (lab := 118 :: 58 :: t.name) (p := p) (ins := []) (Nat.le_refl _) h1 (by simp) (by simp; omega) hp .nil) (fun u hu => h8 u (.tail _ hu)) (fun u hu => hn u (.tail _ hu)) hu.tail
    simpa only [putKids, List.length_cons, Nat.add_assoc, Nat.add_comm 1] using this
theorem kinds8_len : ∀ {l : List Tr}, (∀ t ∈ l, t.kind = 8) → l.length ≤ Tr.cnts l
  | [], _ => Nat.le_refl _
  | t :: l, h => by
    have := kinds8_len (l := l) fun u hu => h u (.tail _ hu)
    have h8 := h t (.head _)
    cases t with
    | none => simp [Tr.kind] at h8
    | node k n a b ks => simp only [List.length_cons, Tr.cnts, Tr.cnt]; omega
theorem dataW_ok {U : List Str} {N : Nat} {x : Stt} {k n : Int} {a b : Str} {l : List Tr} {p : Path} {w : Wk} (hk : k = 62 ∨ k = 72) (hs : SOK U x.S) (ho : HsOK U x.Out) (h8 : ∀ t ∈ l, t.kind = 8) (ht : TyW (.node k n a b l)) (hu : InU U (.node k n a b l)) (hp : p.length ≤ 10000) :
    LenOK w (dataW N x (.node k n a b l) p w).1 (Tr.node k n a b l).cnt ∧ SttOK U x (dataW N x (.node k n a b l) p w).2 (Tr.node k n a b l).cnt := by
  refine ⟨typW_len .., ?_⟩
  have ha : a.length ≤ 128 := ht.len
  have h1 : (116 :: 58 :: a) ∈ U := hu.self _ (by rcases hk with rfl | rfl <;> simp [labK])
  have hl : ∀ t ∈ l, TyW t := by cases ht; assumption
  have h0 : SttOK U x (x.put (116 :: 58 :: a) p []) 1 := (SttOK.refl hs ho 0).put (Nat.le_refl _) h1 (by simp) (by simp; omega) hp .nil
  exact (putKids_ok hp h0 h8 (fun t ht => (hl t ht).len) hu.kids).mono (by have := kinds8_len h8; simp only [Tr.cnt]; omega)
def SigOK (U : List Str) (N : Nat) : Prop := ∀ (s : List Bd) (t : Tr) (p : Path) (w : Wk), SgW t → SOK U s → InU U t → p.length + N ≤ 10000 → LenOK w (sigW N s t p w).1 t.cnt ∧ HsOK U (sigW N s t p w).2
def SpecOK (U : List Str) (N : Nat) : Prop := ∀ (x : Stt) (t : Tr) (p : Path) (w : Wk), SpW t → SOK U x.S → HsOK U x.Out → InU U t → p.length + N ≤ 10000 → LenOK w (specW N x t p w).1 t.cnt ∧ SttOK U x (specW N x t p w).2 t.cnt
theorem foldK_typ_len {N : Nat} {s : List Bd} {p : Path} (l : List Tr) (i : Nat) (w : Wk) : LenOK w (foldK (fun i k w => typW N s k (down p i) w) i l w) (Tr.cnts l) := by
  have := foldK_cost (f := fun i k w => typW N s k (down p i) w) (fun c x => LenOK w x c) l i 0 w (fun t _ j c x h => h.trans (typW_len N _ t _ x)) (.refl _ _)
  simpa using this
theorem spec_fold {U : List Str} {N : Nat} (ih : SpecOK U N) {p : Path} (hp : p.length + 1 + N ≤ 10000) {l : List Tr} (hl : ∀ t ∈ l, SpW t) (hu : InUs U l) (x : Stt) (w : Wk) (i : Nat) (hs : SOK U x.S) (ho : HsOK U x.Out) :
    LenOK w (foldK (fun i k x => specW N x.2 k (down p i) x.1) i l (w, x)).1 (Tr.cnts l) ∧ SttOK U x (foldK (fun i k x => specW N x.2 k (down p i) x.1) i l (w, x)).2 (Tr.cnts l) := by
  have := foldK_cost (f := fun i k x => specW N x.2 k (down p i) x.1) (fun c (y : Wk × Stt) => LenOK w y.1 c ∧ SttOK U x y.2 c) l i 0 (w, x) (fun t ht j c y h => ?_) ⟨.refl _ _, .refl hs ho _⟩
  · simpa using this
  · have := ih y.2 t (down p j) y.1 (hl t ht) h.2.s h.2.o (hu.mem t ht) (by rw [down_len]; omega)
    exact ⟨h.1.trans this.1, h.2.trans this.2⟩
theorem bring_len {U : List Str} {ins : List Hs} (h : HsOK U ins) (s : List Bd) (p : Path) : (bringB s ins p).length ≤ s.length + U.length := by
  have := h.len
  simp [bringB]; omega
theorem SttOK.bring {U : List Str} {x : Stt} {p : Path} {ins : List Hs} (hs : SOK U x.S) (ho : HsOK U x.Out) (hp : p.length ≤ 10000) (hi : HsOK U ins) (o : List Hs) (hoo : HsOK U o) {c : Nat} (hc : 1 ≤ c) : SttOK U x ⟨bringB x.S ins p, o⟩ c := by
  refine SttOK.mono (c := 1) ⟨bringB_ok hs hp hi, hoo, ?_⟩ hc
  have := bring_len hi x.S p
  simp only [Nat.mul_one]
  omega
theorem SttOK.bind {U : List Str} {x : Stt} {p : Path} {ins : List Hs} {lab : Str} (hs : SOK U x.S) (ho : HsOK U x.Out) (hp : p.length ≤ 10000) (h2 : 2 ≤ lab.length) (h3 : lab.length ≤ 200) (hi : HsOK U ins) {c : Nat} (hc : 1 ≤ c) : SttOK U x ⟨bindB x.S lab p ins, x.Out⟩ c := by
  refine SttOK.mono (c := 1) ⟨bindB_ok hs h2 h3 hp hi, ho, ?_⟩ hc
  simp only [Nat.mul_one, bindB, List.length_append, List.length_singleton]
  omega
theorem SgW.pos {t : Tr} (h : SgW t) : 1 ≤ t.cnt := by cases h <;> simp only [Tr.cnt] <;> omega
theorem SpW.pos {t : Tr} (h : SpW t) : 1 ≤ t.cnt := by cases h <;> simp only [Tr.cnt] <;> omega
theorem MdW.pos {t : Tr} (h : MdW t) : 1 ≤ t.cnt := by cases h <;> simp only [Tr.cnt] <;> omega
theorem DcW.pos {t : Tr} (h : DcW t) : 1 ≤ t.cnt := by cases h <;> simp only [Tr.cnt] <;> omega
theorem TyW.pos {t : Tr} (h : TyW t) : 1 ≤ t.cnt := by cases h <;> simp only [Tr.cnt] <;> omega
theorem ExW.pos {t : Tr} (h : ExW t) : 1 ≤ t.cnt := by cases h <;> simp only [Tr.cnt] <;> omega
theorem SttOK.put1 {U : List Str} {x : Stt} {lab : Str} {p : Path} {ins : List Hs} {c : Nat} (hs : SOK U x.S) (ho : HsOK U x.Out) (hc : 1 ≤ c) (hu : lab ∈ U) (h2 : 2 ≤ lab.length) (h3 : lab.length ≤ 200) (hp : p.length ≤ 10000) (hi : HsOK U ins) : SttOK U x (x.put lab p ins) c :=
  (SttOK.refl hs ho 0).put (by omega) hu h2 h3 hp hi
theorem sig_step {U : List Str} {N : Nat} (ihg : SigOK U N) (ihp : SpecOK U N) : SigOK U (N + 1) := by
  intro s t p w h hs hu hp
  cases h with
  | name h => simp only [sigW, Tr.kind, if_true, Tr.cnt]; exact ⟨(show LenOK _ _ _ from refer_L ..).mono (by omega), refer_ok hs⟩
  | @wh n a b s' t' h1 h2 =>
    have hk := hu.kids
    obtain ⟨l1, o1⟩ := ihg s s' (down p 0) w h1 hs hk.head (by rw [down_len]; omega)
    simp only [sigW, Tr.kind, Tr.kid, Tr.kids, List.getD_cons_zero, List.getD_cons_succ, Tr.cnt, Tr.cnts]
    exact ⟨(l1.trans (typW_len ..)).mono (by omega), o1⟩
  | body hl =>
    have := spec_fold ihp (p := p) (by omega) hl hu.kids ⟨s, []⟩ w 0 hs .nil
    simp only [sigW, Tr.kind, Tr.kids, Tr.cnt]
    exact ⟨this.1.mono (by omega), this.2.o⟩
theorem spec_step {U : List Str} {N : Nat} (ihg : SigOK U N) : SpecOK U (N + 1) := by
  intro x t p w h hs ho hu hp
  have hp1 : p.length ≤ 10000 := by omega
  cases h with
  | val ha h =>
    simp only [specW, Tr.kind, Tr.kid, Tr.kids, Tr.name, if_true, List.getD_cons_zero, Tr.cnt, Tr.cnts]
    exact ⟨(typW_len ..).mono (by omega), .put1 hs ho (by omega) (hu.self _ (by simp [labK])) (by simp) (by simp; omega) hp1 .nil⟩
  | typ0 ha =>
    simp only [specW, Tr.kind, Tr.kids, Tr.name, Tr.cnt, Tr.cnts]
    exact ⟨(foldK_typ_len (N := N) (s := x.S) (p := p) [] 0 w).mono (by simp [Tr.cnts]), .put1 hs ho (by omega) (hu.self _ (by simp [labK])) (by simp) (by simp; omega) hp1 .nil⟩
  | typ1 ha h =>
    simp only [specW, Tr.kind, Tr.kids, Tr.name, Tr.cnt]
    exact ⟨(foldK_typ_len (N := N) (s := x.S) (p := p) _ 0 w).mono (by omega), .put1 hs ho (by omega) (hu.self _ (by simp [labK])) (by simp) (by simp; omega) hp1 .nil⟩
  | data h8 h =>
    simp only [specW, Tr.kind]
    exact dataW_ok (.inl rfl) hs ho h8 h hu hp1
  | str ha h =>
    obtain ⟨l1, o1⟩ := ihg x.S _ (down p 0) w h hs hu.kids.head (by rw [down_len]; omega)
    simp only [specW, Tr.kind, Tr.kid, Tr.kids, Tr.name, List.getD_cons_zero, Tr.cnt, Tr.cnts]
    exact ⟨l1.mono (by omega), .put1 hs ho (by omega) (hu.self _ (by simp [labK])) (by simp) (by simp; omega) hp1 o1⟩
  | inc h =>
    obtain ⟨l1, o1⟩ := ihg x.S _ (down p 0) w h hs hu.kids.head (by rw [down_len]; omega)
    simp only [specW, Tr.kind, Tr.kid, Tr.kids, List.getD_cons_zero, Tr.cnt, Tr.cnts]
    exact ⟨l1.mono (by omega), .bring hs ho hp1 o1 _ (putAll_ok hp1 ho o1) (by omega)⟩
  | share =>
    simp only [specW, Tr.kind]
    exact ⟨.refl _ _, .refl hs ho _⟩
theorem sigs_ok (U : List Str) : ∀ N, SigOK U N ∧ SpecOK U N
  | 0 => ⟨fun s t p w _ _ _ _ => by simp only [sigW]; exact ⟨.refl _ _, .nil⟩, fun x t p w _ hs ho _ _ => by simp only [specW]; exact ⟨.refl _ _, .refl hs ho _⟩⟩
  | N + 1 => have ih := sigs_ok U N; ⟨sig_step ih.1 ih.2, spec_step ih.1⟩
def LenX (U : List Str) (w w' : Wk) (c : Nat) : Prop := w'.L.length ≤ w.L.length + c ∧ w'.X.length ≤ w.X.length + U.length * c
theorem LenOK.x {U : List Str} {w w' : Wk} {c : Nat} (h : LenOK w w' c) : LenX U w w' c := ⟨h.1, by rw [h.2]; omega⟩
theorem LenX.refl (U : List Str) (w : Wk) (c : Nat) : LenX U w w c := ⟨by omega, by omega⟩
theorem LenX.trans {U : List Str} {w w' w'' : Wk} {c d : Nat} (h : LenX U w w' c) (k : LenX U w' w'' d) : LenX U w w'' (c + d) :=
  ⟨by have := h.1; have := k.1; omega, by have := h.2; have := k.2; have e : U.length * (c + d) = U.length * c + U.length * d := Nat.mul_add _ _ _; omega⟩
theorem LenX.mono {U : List Str} {w w' : Wk} {c d : Nat} (h : LenX U w w' c) (k : c ≤ d) : LenX U w w' d := ⟨by have := h.1; omega, by have := h.2; have := Nat.mul_le_mul_left U.length k; omega⟩
theorem ends_len (out : List Hs) (p : Path) : (endsL out p).length = out.length := by simp [endsL, sortS]
theorem LenX.ends {U : List Str} {w w' : Wk} {c d : Nat} {out : List Hs} {p : Path} (h : LenX U w w' c) (ho : HsOK U out) (hd : c + 1 ≤ d) : LenX U w { w' with X := w'.X ++ endsL out p } d := by
  refine LenX.mono (c := c + 1) ⟨by have := h.1; simp only; omega, ?_⟩ hd
  have := h.2
  have := ho.len
  have e : U.length * (c + 1) = U.length * c + U.length := Nat.mul_succ _ _
  simp only [List.length_append, ends_len]
  omega
def ModOK (U : List Str) (N : Nat) : Prop := ∀ (s : List Bd) (t : Tr) (p : Path) (w : Wk), MdW t → SOK U s → InU U t → p.length + N ≤ 10000 → LenX U w (modW N s t p w).1 t.cnt ∧ HsOK U (modW N s t p w).2
def DeclOK (U : List Str) (N : Nat) : Prop := ∀ (x : Stt) (t : Tr) (p : Path) (w : Wk), DcW t → SOK U x.S → HsOK U x.Out → InU U t → p.length + N ≤ 10000 → LenX U w (declW N x t p w).1 t.cnt ∧ SttOK U x (declW N x t p w).2 t.cnt
theorem decl_fold {U : List Str} {N : Nat} (ih : DeclOK U N) {p : Path} (hp : p.length + 1 + N ≤ 10000) {l : List Tr} (hl : ∀ t ∈ l, DcW t) (hu : InUs U l) (x : Stt) (w : Wk) (i : Nat) (hs : SOK U x.S) (ho : HsOK U x.Out) :
    LenX U w (foldK (fun i k x => declW N x.2 k (down p i) x.1) i l (w, x)).1 (Tr.cnts l) ∧ SttOK U x (foldK (fun i k x => declW N x.2 k (down p i) x.1) i l (w, x)).2 (Tr.cnts l) := by
  have := foldK_cost (f := fun i k x => declW N x.2 k (down p i) x.1) (fun c (y : Wk × Stt) => LenX U w y.1 c ∧ SttOK U x y.2 c) l i 0 (w, x) (fun t ht j c y h => ?_) ⟨.refl _ _ _, .refl hs ho _⟩
  · simpa using this
  · have := ih y.2 t (down p j) y.1 (hl t ht) h.2.s h.2.o (hu.mem t ht) (by rw [down_len]; omega)
    exact ⟨h.1.trans this.1, h.2.trans this.2⟩
theorem mod_step {U : List Str} {N : Nat} (ihm : ModOK U N) (ihd : DeclOK U N) : ModOK U (N + 1) := by
  intro s t p w h hs hu hp
  cases h with
  | path h => simp only [modW, Tr.kind, if_true, Tr.cnt]; exact ⟨((show LenOK _ _ _ from refer_L ..).mono (by omega)).x, refer_ok hs⟩
  | @app n a b m h h1 =>
    have hk := hu.kids
    have l0 : LenOK w (refer w s p [102] a).1 1 := refer_L ..
    obtain ⟨l1, o1⟩ := ihm s m (down p 0) (refer w s p [102] a).1 h1 hs hk.head (by rw [down_len]; omega)
    simp only [modW, Tr.kind, Tr.kid, Tr.kids, Tr.name, List.getD_cons_zero, Tr.cnt, Tr.cnts]
    exact ⟨(l0.x.trans l1).mono (by omega), refer_ok hs⟩
  | @sealM n a b m s' h1 h2 =>
    have hk := hu.kids
    obtain ⟨l1, o1⟩ := ihm s m (down p 0) w h1 hs hk.head (by rw [down_len]; omega)
    obtain ⟨l2, o2⟩ := (sigs_ok U N).1 s s' (down p 1) (modW N s m (down p 0) w).1 h2 hs hk.tail.head (by rw [down_len]; omega)
    simp only [modW, Tr.kind, Tr.kid, Tr.kids, List.getD_cons_zero, List.getD_cons_succ, Tr.cnt, Tr.cnts]
    exact ⟨(l1.trans l2.x).mono (by omega), o2⟩
  | body hl =>
    have := decl_fold ihd (p := p) (by omega) hl hu.kids ⟨s, []⟩ w 0 hs .nil
    simp only [modW, Tr.kind, Tr.kids, Tr.cnt]
    exact ⟨this.1.ends this.2.o (by omega), this.2.o⟩
theorem decl_step {U : List Str} {N : Nat} (ihm : ModOK U N) : DeclOK U (N + 1) := by
  intro x t p w h hs ho hu hp
  have hp1 : p.length ≤ 10000 := by omega
  have ihg := (sigs_ok U N).1
  cases h with
  | val1 ha h =>
    simp only [declW, Tr.kind, Tr.kid, Tr.kids, Tr.name, if_true, List.getD_cons_zero, Tr.cnt, Tr.cnts, List.length_singleton, Nat.sub_self]
    exact ⟨((exprW_len ..).mono (by omega)).x, .put1 hs ho (by omega) (hu.self _ (by simp [labK])) (by simp) (by simp; omega) hp1 .nil⟩
  | val2 ha h1 h =>
    simp only [declW, Tr.kind, Tr.kid, Tr.kids, Tr.name, if_true, List.getD_cons_zero, List.getD_cons_succ, Tr.cnt, Tr.cnts, List.length_cons, List.length_nil, Nat.add_sub_cancel]
    exact ⟨(((typW_len ..).trans (exprW_len ..)).mono (by omega)).x, .put1 hs ho (by omega) (hu.self _ (by simp [labK])) (by simp) (by simp; omega) hp1 .nil⟩
  | typ ha h =>
    simp only [declW, Tr.kind, Tr.kid, Tr.kids, Tr.name, List.getD_cons_zero, Tr.cnt, Tr.cnts]
    exact ⟨((typW_len ..).mono (by omega)).x, .put1 hs ho (by omega) (hu.self _ (by simp [labK])) (by simp) (by simp; omega) hp1 .nil⟩
  | data h8 h =>
    have := dataW_ok (N := N + 1) (w := w) (.inr rfl) hs ho h8 h hu hp1
    simp only [declW, Tr.kind]
    exact ⟨this.1.x, this.2⟩
  | str ha h =>
    obtain ⟨l1, o1⟩ := ihm x.S _ (down p 0) w h hs hu.kids.head (by rw [down_len]; omega)
    simp only [declW, Tr.kind, Tr.kid, Tr.kids, Tr.name, List.getD_cons_zero, Tr.cnt, Tr.cnts]
    exact ⟨l1.mono (by omega), .put1 hs ho (by omega) (hu.self _ (by simp [labK])) (by simp) (by simp; omega) hp1 o1⟩
  | sg ha h =>
    obtain ⟨l1, o1⟩ := ihg x.S _ (down p 0) w h hs hu.kids.head (by rw [down_len]; omega)
    simp only [declW, Tr.kind, Tr.kid, Tr.kids, Tr.name, List.getD_cons_zero, Tr.cnt, Tr.cnts]
    exact ⟨(l1.mono (by omega)).x, .bind hs ho hp1 (by simp) (by simp; omega) o1 (by omega)⟩
  | @ftor n a b s m ha hb h1 h2 =>
    obtain ⟨l1, o1⟩ := ihg x.S s (down p 0) w h1 hs hu.kids.head (by rw [down_len]; omega)
    obtain ⟨l2, o2⟩ := ihm (bindB x.S (109 :: 58 :: b) p (sigW N x.S s (down p 0) w).2) m (down p 1) (sigW N x.S s (down p 0) w).1 h2 (bindB_ok hs (by simp) (by simp; omega) hp1 o1) hu.kids.tail.head (by rw [down_len]; omega)
    simp only [declW, Tr.kind, Tr.kid, Tr.kids, Tr.name, Tr.mark, List.getD_cons_zero, List.getD_cons_succ, Tr.cnt, Tr.cnts]
    exact ⟨(l1.x.trans l2).mono (by omega), .bind hs ho hp1 (by simp) (by simp; omega) o2 (by omega)⟩
  | opn h =>
    have o1 := refer_ok (w := w) (p := p) (sp := [109]) (long := ‹Str›) hs
    simp only [declW, Tr.kind, Tr.name, Tr.cnt, Tr.cnts]
    exact ⟨((show LenOK _ _ _ from refer_L ..).mono (by omega)).x, .bring hs ho hp1 (refer_ok hs) _ ho (by omega)⟩
  | inc h =>
    simp only [declW, Tr.kind, Tr.name, Tr.cnt, Tr.cnts]
    exact ⟨((show LenOK _ _ _ from refer_L ..).mono (by omega)).x, .bring hs ho hp1 (refer_ok hs) _ (putAll_ok hp1 ho (refer_ok hs)) (by omega)⟩
theorem mods_ok (U : List Str) : ∀ N, ModOK U N ∧ DeclOK U N
  | 0 => ⟨fun s t p w _ _ _ _ => by simp only [modW]; exact ⟨.refl _ _ _, .nil⟩, fun x t p w _ hs ho _ _ => by simp only [declW]; exact ⟨.refl _ _ _, .refl hs ho _⟩⟩
  | N + 1 => have ih := mods_ok U N; ⟨mod_step ih.1 ih.2, decl_step ih.1⟩
end Go.Av
namespace Go.Av
open Go.Lib
theorem decode_46 (l : Str) (j : Nat) (hj : j < (decodeL l).2) (h : l[j]? = some 46) : (decodeL l).1 = 46 := by
  have g : (ByteArray.get! ⟨l.toArray⟩ (0 + j)).toNat = 46 := by
    obtain ⟨hlt, he⟩ := List.getElem?_eq_some_iff.1 h
    rw [Nat.zero_add]
    simp [ByteArray.get!, hlt, he]
  unfold decodeL Utf8.decode at *
  simp only at *
  split at hj
  · rename_i hb
    have : j = 0 := by simpa using hj
    subst this
    rw [if_pos hb]; exact g
  · rename_i hb
    rw [if_neg hb]
    have j0 : j ≠ 0 := by rintro rfl; omega
    split at hj
    · rename_i h2
      simp only [Bool.and_eq_true, beq_iff_eq, decide_eq_true_eq] at h2
      split at hj <;> simp only at hj
      · have : j = 1 := by omega
        subst this; omega
      · omega
    · split at hj
      · rename_i h3
        simp only [Bool.and_eq_true, beq_iff_eq, decide_eq_true_eq] at h3
        split at hj <;> simp only at hj
        · have : j = 1 ∨ j = 2 := by omega
          rcases this with rfl | rfl <;> omega
        · omega
      · split at hj
        · rename_i h4
          simp only [Bool.and_eq_true, beq_iff_eq, decide_eq_true_eq] at h4
          split at hj <;> simp only at hj
          · have : j = 1 ∨ j = 2 ∨ j = 3 := by omega
            rcases this with rfl | rfl | rfl <;> omega
          · omega
        · simp only at hj; omega
theorem runes_46 : ∀ (n : Nat) (l : Str), l.length ≤ n → 46 ∈ l → 46 ∈ runes l
  | 0, l, h, hm => by have : l = [] := List.eq_nil_of_length_eq_zero (by omega); subst this; simp at hm
  | n + 1, l, h, hm => by
    have hne : l ≠ [] := List.ne_nil_of_mem hm
    have hw := decodeL_width l
    rw [runes_step l hne]
    obtain ⟨j, hj, he⟩ := List.mem_iff_getElem.1 hm
    rcases Nat.lt_or_ge j (decodeL l).2 with q | q
    · rw [decode_46 l j q (by rw [List.getElem?_eq_getElem hj, he])]; exact .head _
    · refine .tail _ (runes_46 n _ (by rw [List.length_drop]; omega) ?_)
      refine List.mem_iff_getElem.2 ⟨j - (decodeL l).2, by rw [List.length_drop]; omega, ?_⟩
      rw [List.getElem_drop]
      simpa [show (decodeL l).2 + (j - (decodeL l).2) = j from by omega] using he
theorem nameRs_46 : ∀ (f : Bool) (l : List Nat), nameRs f l = true → 46 ∉ l
  | _, [], _ => by simp
  | f, r :: l, h => by
    simp only [nameRs, Bool.and_eq_true] at h
    intro hm
    rcases List.mem_cons.1 hm with e | hm
    · subst e
      have := h.1
      simp [okR, cls] at this
    · exact nameRs_46 false l h.2 hm
theorem pieces_no : ∀ (acc l : Str), 46 ∉ l → pieces acc l = [acc ++ l]
  | acc, [], _ => by simp [pieces]
  | acc, c :: l, h => by
    simp only [List.mem_cons, not_or] at h
    simp only [pieces, if_neg (Ne.symm h.1)]
    rw [pieces_no _ l h.2]
    simp
theorem checkB_long {a : Str} (h : checkB a = true) : longB a = true := by
  have h0 := h
  unfold checkB nameB at h0
  simp only [Bool.and_eq_true, decide_eq_true_eq] at h0
  have hno : 46 ∉ a := fun hm => nameRs_46 _ _ h0.1.2.2 (runes_46 _ _ (Nat.le_refl _) hm)
  unfold longB
  rw [pieces_no [] a hno]
  simp [h]
  omega
theorem checkB_len {a : Str} (h : checkB a = true) : a.length ≤ 128 := longB_len (checkB_long h)
theorem kids0 {l : List Tr} (h : kidsB l [] = true) : l = [] := by cases l <;> simp [kidsB] at h ⊢
theorem kids1 {l : List Tr} {c : UInt8} (hc : plainB [c] = true) (h : kidsB l [c] = true) : ∃ t, l = [t] ∧ isB t (catB c) = true := by
  obtain ⟨h1, h2⟩ := (kidsB_plain [c] l hc).1 h
  match l, h1 with
  | [t], _ => exact ⟨t, rfl, h2 0 (by simp) (by simp)⟩
theorem kids2 {l : List Tr} {c d : UInt8} (hc : plainB [c, d] = true) (h : kidsB l [c, d] = true) : ∃ t u, l = [t, u] ∧ isB t (catB c) = true ∧ isB u (catB d) = true := by
  obtain ⟨h1, h2⟩ := (kidsB_plain [c, d] l hc).1 h
  match l, h1 with
  | [t, u], _ => exact ⟨t, u, rfl, h2 0 (by simp) (by simp), h2 1 (by simp) (by simp)⟩
theorem kids3 {l : List Tr} {c d e : UInt8} (hc : plainB [c, d, e] = true) (h : kidsB l [c, d, e] = true) : ∃ t u v, l = [t, u, v] ∧ isB t (catB c) = true ∧ isB u (catB d) = true ∧ isB v (catB e) = true := by
  obtain ⟨h1, h2⟩ := (kidsB_plain [c, d, e] l hc).1 h
  match l, h1 with
  | [t, u, v], _ => exact ⟨t, u, v, rfl, h2 0 (by simp) (by simp), h2 1 (by simp) (by simp), h2 2 (by simp) (by simp)⟩
theorem kidsC {l : List Tr} (h : kidsB l [67] = true) : ∀ t ∈ l, isB t 8 = true := by
  rw [kidsB_C] at h
  simp only [Bool.and_eq_true, List.all_eq_true] at h
  exact h.2.1
theorem cnt_mem {t : Tr} : ∀ {l : List Tr}, t ∈ l → t.cnt ≤ Tr.cnts l
  | u :: l, h => by
    simp only [Tr.cnts]
    rcases List.mem_cons.1 h with rfl | h
    · omega
    · have := cnt_mem h; omega
theorem ty_of : ∀ (N : Nat) (t : Tr), t.cnt ≤ N → (isB t 1 = true → TyW t) ∧ (isB t 8 = true → TyW t ∧ t.kind = 8)
  | _, .none, _ => ⟨fun h => by simp [isB] at h, fun h => by simp [isB] at h⟩
  | 0, .node k n a b l, h => by simp [Tr.cnt] at h
  | N + 1, .node k n a b l, hN => by
    simp only [Tr.cnt] at hN
    have ih : ∀ t ∈ l, (isB t 1 = true → TyW t) ∧ (isB t 8 = true → TyW t ∧ t.kind = 8) := fun t ht => ty_of N t (by have := cnt_mem ht; omega)
    refine ⟨fun h => ?_, fun h => ?_⟩
    · by_cases h1 : k = 1
      · subst h1; rw [is_1_1] at h; simp only [Bool.and_eq_true, decide_eq_true_eq] at h; obtain rfl := kids0 h.2.2.2; exact .mk (by simp) (by simp [h.1]) (by simp) (by decide)
      by_cases h2 : k = 2
      · subst h2; rw [is_1_2] at h; simp only [Bool.and_eq_true, decide_eq_true_eq] at h; obtain rfl := kids0 h.2.2.2; exact .mk (by simp) (by simp [h.1]) (by simp) (by decide)
      by_cases h3 : k = 3
      · subst h3; rw [is_1_3] at h; simp only [Bool.and_eq_true, decide_eq_true_eq] at h; obtain rfl := kids0 h.2.2.2; exact .mk (by simp) (by simp [h.1]) (by simp) (by decide)
      by_cases h4 : k = 4
      · subst h4; rw [is_1_4] at h; simp only [Bool.and_eq_true, decide_eq_true_eq] at h; obtain rfl := kids0 h.2.2.2; exact .mk (fun _ => h.1) (longB_len h.1) (by simp) (by decide)
      by_cases h5 : k = 5
      · subst h5; rw [is_1_5] at h; simp only [Bool.and_eq_true, decide_eq_true_eq] at h; obtain ⟨t, u, rfl, g1, g2⟩ := kids2 (by decide) h.2.2.2
        exact .mk (by simp) (by simp [h.1]) (by simp only [List.mem_cons, List.not_mem_nil, or_false]; rintro x (rfl | rfl); exact (ih _ (by simp)).1 g1; exact (ih _ (by simp)).1 g2) (by decide)
      by_cases h6 : k = 6
      · subst h6; rw [is_1_6] at h; simp only [Bool.and_eq_true, decide_eq_true_eq] at h; obtain ⟨t, u, rfl, g1, g2⟩ := kids2 (by decide) h.2.2.2
        exact .mk (by simp) (by simp [h.1]) (by simp only [List.mem_cons, List.not_mem_nil, or_false]; rintro x (rfl | rfl); exact (ih _ (by simp)).1 g1; exact (ih _ (by simp)).1 g2) (by decide)
      by_cases h7 : k = 7
      · subst h7; rw [is_1_7] at h; simp only [Bool.and_eq_true, decide_eq_true_eq] at h; exact .mk (by simp) (checkB_len h.1) (fun t ht => ((ih t ht).2 (kidsC h.2.2.2 t ht)).1) (by decide)
      rw [is_1_else n a b l h1 h2 h3 h4 h5 h6 h7] at h; cases h
    · by_cases h8 : k = 8
      · subst h8; rw [is_8_8] at h; simp only [Bool.and_eq_true, decide_eq_true_eq] at h; obtain ⟨t, rfl, g⟩ := kids1 (by decide) h.2.2.2
        exact ⟨.mk (by simp) (checkB_len h.1) (by simp only [List.mem_singleton]; rintro x rfl; exact (ih _ (by simp)).1 g) (by decide), rfl⟩
      · rw [is_8_else n a b l h8] at h; cases h
theorem ty_ok {t : Tr} (h : isB t 1 = true) : TyW t := (ty_of _ t (Nat.le_refl _)).1 h
theorem con_ok {t : Tr} (h : isB t 8 = true) : TyW t ∧ t.kind = 8 := (ty_of _ t (Nat.le_refl _)).2 h
theorem kidsA {t : Tr} {l : List Tr} (h : kidsB (t :: l) [101, 65] = true) : isB t 2 = true ∧ ∀ x ∈ l, isB x 9 = true := by
  rw [show kidsB (t :: l) [101, 65] = (isB t 2 && kidsB l [65]) from by simp [kidsB, catB], kidsB_A] at h
  simp only [Bool.and_eq_true, List.all_eq_true] at h
  exact ⟨h.1, h.2.2⟩
theorem kidsTA {t u : Tr} {l : List Tr} (h : kidsB (t :: u :: l) [101, 116, 65] = true) : isB t 2 = true ∧ isB u 1 = true ∧ ∀ x ∈ l, isB x 9 = true := by
  rw [show kidsB (t :: u :: l) [101, 116, 65] = (isB t 2 && (isB u 1 && kidsB l [65])) from by simp [kidsB, catB], kidsB_A] at h
  simp only [Bool.and_eq_true, List.all_eq_true] at h
  exact ⟨h.1, h.2.1, h.2.2.2⟩
theorem ex_of : ∀ (N : Nat) (t : Tr), t.cnt ≤ N → (isB t 2 = true → ExW t) ∧ (isB t 9 = true → ExW t)
  | _, .none, _ => ⟨fun h => by simp [isB] at h, fun h => by simp [isB] at h⟩
  | 0, .node k n a b l, h => by simp [Tr.cnt] at h
  | N + 1, .node k n a b l, hN => by
    simp only [Tr.cnt] at hN
    have ih : ∀ t ∈ l, (isB t 2 = true → ExW t) ∧ (isB t 9 = true → ExW t) := fun t ht => ex_of N t (by have := cnt_mem ht; omega)
    have leaf : ∀ {k : Int}, l = [] → k ≠ 23 → k ≠ 24 → k ≠ 29 → k ≠ 33 → k ≠ 34 → refK k = false → ExW (.node k n a b l) := fun e h1 h2 h3 h4 h5 h6 => .other h1 h2 h3 h4 h5 (by rw [e]; simp) h6
    have one : ∀ {k : Int}, kidsB l [101] = true → k ≠ 23 → k ≠ 24 → k ≠ 29 → k ≠ 33 → k ≠ 34 → refK k = false → ExW (.node k n a b l) := fun e h1 h2 h3 h4 h5 h6 => .other h1 h2 h3 h4 h5 (by
      obtain ⟨t, rfl, g⟩ := kids1 (by decide) e
      simp only [List.mem_singleton]; rintro x rfl; exact (ih _ (by simp)).1 g) h6
    have two : ∀ {k : Int}, kidsB l [101, 101] = true → k ≠ 23 → k ≠ 24 → k ≠ 29 → k ≠ 33 → k ≠ 34 → refK k = false → ExW (.node k n a b l) := fun e h1 h2 h3 h4 h5 h6 => .other h1 h2 h3 h4 h5 (by
      obtain ⟨t, u, rfl, g1, g2⟩ := kids2 (by decide) e
      simp only [List.mem_cons, List.not_mem_nil, or_false]; rintro x (rfl | rfl); exact (ih _ (by simp)).1 g1; exact (ih _ (by simp)).1 g2) h6
    refine ⟨fun h => ?_, fun h => ?_⟩
    · by_cases h20 : k = 20
      · subst h20; rw [is_2_20] at h; simp only [Bool.and_eq_true, decide_eq_true_eq] at h; exact leaf (kids0 h.2.2.2) (by decide) (by decide) (by decide) (by decide) (by decide) (by decide)
      by_cases h21 : k = 21
      · subst h21; rw [is_2_21] at h; simp only [Bool.and_eq_true, decide_eq_true_eq] at h; exact leaf (kids0 h.2.2.2) (by decide) (by decide) (by decide) (by decide) (by decide) (by decide)
      by_cases h22 : k = 22
      · subst h22; rw [is_2_22] at h; simp only [Bool.and_eq_true, decide_eq_true_eq] at h; exact leaf (kids0 h.2.2.2) (by decide) (by decide) (by decide) (by decide) (by decide) (by decide)
      by_cases h23 : k = 23
      · subst h23; rw [is_2_23] at h; simp only [Bool.and_eq_true, decide_eq_true_eq] at h; obtain rfl := kids0 h.2.2.2; exact .var h.1
      by_cases h24 : k = 24
      · subst h24; rw [is_2_24] at h; simp only [Bool.and_eq_true, decide_eq_true_eq] at h; obtain ⟨t, u, rfl, g1, g2⟩ := kids2 (by decide) h.2.2.2; exact .lam (checkB_len h.1) (ty_ok g1) ((ih _ (by simp)).1 g2)
      by_cases h25 : k = 25
      · subst h25; rw [is_2_25] at h; simp only [Bool.and_eq_true, decide_eq_true_eq] at h; exact two h.2.2.2 (by decide) (by decide) (by decide) (by decide) (by decide) (by decide)
      by_cases h26 : k = 26
      · subst h26; rw [is_2_26] at h; simp only [Bool.and_eq_true, decide_eq_true_eq] at h; exact two h.2.2.2 (by decide) (by decide) (by decide) (by decide) (by decide) (by decide)
      by_cases h27 : k = 27
      · subst h27; rw [is_2_27] at h; simp only [Bool.and_eq_true, decide_eq_true_eq] at h; exact one h.2.2.2 (by decide) (by decide) (by decide) (by decide) (by decide) (by decide)
      by_cases h28 : k = 28
      · subst h28; rw [is_2_28] at h; simp only [Bool.and_eq_true, decide_eq_true_eq] at h; exact one h.2.2.2 (by decide) (by decide) (by decide) (by decide) (by decide) (by decide)
      by_cases h29 : k = 29
      · subst h29; rw [is_2_29] at h; simp only [Bool.and_eq_true, decide_eq_true_eq] at h; obtain ⟨t, u, rfl, g1, g2⟩ := kids2 (by decide) h.2.2.2; exact .bnd (checkB_len h.1) ((ih _ (by simp)).1 g1) ((ih _ (by simp)).1 g2)
      by_cases h30 : k = 30
      · subst h30; rw [is_2_30] at h; simp only [Bool.and_eq_true, decide_eq_true_eq] at h; obtain ⟨t, u, v, rfl, g1, g2, g3⟩ := kids3 (by decide) h.2.2.2
        exact .other (by decide) (by decide) (by decide) (by decide) (by decide) (by simp only [List.mem_cons, List.not_mem_nil, or_false]; rintro x (rfl | rfl | rfl); exact (ih _ (by simp)).1 g1; exact (ih _ (by simp)).1 g2; exact (ih _ (by simp)).1 g3) (by decide)
      by_cases h31 : k = 31
      · subst h31; rw [is_2_31] at h; simp only [Bool.and_eq_true, decide_eq_true_eq] at h; exact two h.2.2.2 (by decide) (by decide) (by decide) (by decide) (by decide) (by decide)
      by_cases h32 : k = 32
      · subst h32; rw [is_2_32] at h; simp only [Bool.and_eq_true, decide_eq_true_eq] at h
        cases l with
        | nil => simp [kidsB] at h
        | cons t l =>
          obtain ⟨g1, g2⟩ := kidsA h.2.2.2
          exact .other (by decide) (by decide) (by decide) (by decide) (by decide) (fun x hx => by
            rcases List.mem_cons.1 hx with rfl | hx
            · exact (ih _ (by simp)).1 g1
            · exact (ih _ (by simp [hx])).2 (g2 x hx)) (by decide)
      by_cases h33 : k = 33
      · subst h33; rw [is_2_33] at h; simp only [Bool.and_eq_true, decide_eq_true_eq] at h
        match l, h.2.2.2 with
        | [], h => simp [kidsB] at h
        | [t], h => simp [kidsB] at h
        | t :: u :: l, h =>
          obtain ⟨g1, g2, g3⟩ := kidsTA h
          exact .fold ((ih _ (by simp)).1 g1) (ty_ok g2) (fun x hx => (ih _ (by simp [hx])).2 (g3 x hx))
      rw [is_2_else n a b l h20 h21 h22 h23 h24 h25 h26 h27 h28 h29 h30 h31 h32 h33] at h; cases h
    · by_cases h34 : k = 34
      · subst h34; rw [is_9_34] at h; simp only [Bool.and_eq_true, decide_eq_true_eq] at h; obtain ⟨t, rfl, g⟩ := kids1 (by decide) h.2.2.2; exact .arm (checkB_len h.2.1) ((ih _ (by simp)).1 g)
      · rw [is_9_else n a b l h34] at h; cases h
theorem ex_ok {t : Tr} (h : isB t 2 = true) : ExW t := (ex_of _ t (Nat.le_refl _)).1 h
theorem sg_of : ∀ (N : Nat) (t : Tr), t.cnt ≤ N → (isB t 4 = true → SgW t) ∧ (isB t 5 = true → SpW t)
  | _, .none, _ => ⟨fun h => by simp [isB] at h, fun h => by simp [isB] at h⟩
  | 0, .node k n a b l, h => by simp [Tr.cnt] at h
  | N + 1, .node k n a b l, hN => by
    simp only [Tr.cnt] at hN
    have ih : ∀ t ∈ l, (isB t 4 = true → SgW t) ∧ (isB t 5 = true → SpW t) := fun t ht => sg_of N t (by have := cnt_mem ht; omega)
    refine ⟨fun h => ?_, fun h => ?_⟩
    · by_cases h50 : k = 50
      · subst h50; rw [is_4_50] at h; simp only [Bool.and_eq_true, decide_eq_true_eq, kidsB_star, List.all_eq_true] at h
        exact .body (fun t ht => (ih t ht).2 (h.2.2.2 t ht).1)
      by_cases h51 : k = 51
      · subst h51; rw [is_4_51] at h; simp only [Bool.and_eq_true, decide_eq_true_eq] at h; obtain rfl := kids0 h.2.2.2; exact .name (checkB_long h.1)
      by_cases h52 : k = 52
      · subst h52; rw [is_4_52] at h; simp only [Bool.and_eq_true, decide_eq_true_eq] at h; obtain ⟨t, u, rfl, g1, g2⟩ := kids2 (by decide) h.2.2.2; exact .wh ((ih _ (by simp)).1 g1) (ty_ok g2)
      rw [is_4_else n a b l h50 h51 h52] at h; cases h
    · by_cases h60 : k = 60
      · subst h60; rw [is_5_60] at h; simp only [Bool.and_eq_true, decide_eq_true_eq] at h; obtain ⟨t, rfl, g⟩ := kids1 (by decide) h.2.2.2; exact .val (checkB_len h.1) (ty_ok g)
      by_cases h61 : k = 61
      · subst h61; rw [is_5_61] at h; simp only [Bool.or_eq_true, Bool.and_eq_true, decide_eq_true_eq] at h
        rcases h with h | h
        · obtain ⟨t, rfl, g⟩ := kids1 (by decide) h.2.2.2; exact .typ1 (checkB_len h.1) (ty_ok g)
        · obtain rfl := kids0 h.2.2.2; exact .typ0 (checkB_len h.1)
      by_cases h62 : k = 62
      · subst h62; rw [is_5_62] at h; simp only [Bool.and_eq_true, decide_eq_true_eq] at h
        have hc := kidsC h.2.2.2
        exact .data (fun t ht => (con_ok (hc t ht)).2) (.mk (by simp) (checkB_len h.1) (fun t ht => (con_ok (hc t ht)).1) (by decide))
      by_cases h63 : k = 63
      · subst h63; rw [is_5_63] at h; simp only [Bool.and_eq_true, decide_eq_true_eq] at h; obtain ⟨t, rfl, g⟩ := kids1 (by decide) h.2.2.2; exact .str (checkB_len h.1) ((ih _ (by simp)).1 g)
      by_cases h64 : k = 64
      · subst h64; rw [is_5_64] at h; simp only [Bool.and_eq_true, decide_eq_true_eq] at h; obtain ⟨t, rfl, g⟩ := kids1 (by decide) h.2.2.2; exact .inc ((ih _ (by simp)).1 g)
      by_cases h65 : k = 65
      · subst h65; rw [is_5_65] at h; simp only [Bool.and_eq_true, decide_eq_true_eq] at h; obtain rfl := kids0 h.2.2.2; exact .share
      rw [is_5_else n a b l h60 h61 h62 h63 h64 h65] at h; cases h
theorem sg_ok {t : Tr} (h : isB t 4 = true) : SgW t := (sg_of _ t (Nat.le_refl _)).1 h
theorem md_of : ∀ (N : Nat) (t : Tr), t.cnt ≤ N → (isB t 3 = true → MdW t) ∧ (isB t 6 = true → DcW t)
  | _, .none, _ => ⟨fun h => by simp [isB] at h, fun h => by simp [isB] at h⟩
  | 0, .node k n a b l, h => by simp [Tr.cnt] at h
  | N + 1, .node k n a b l, hN => by
    simp only [Tr.cnt] at hN
    have ih : ∀ t ∈ l, (isB t 3 = true → MdW t) ∧ (isB t 6 = true → DcW t) := fun t ht => md_of N t (by have := cnt_mem ht; omega)
    refine ⟨fun h => ?_, fun h => ?_⟩
    · by_cases h40 : k = 40
      · subst h40; rw [is_3_40] at h; simp only [Bool.and_eq_true, decide_eq_true_eq, kidsB_star, List.all_eq_true] at h
        exact .body (fun t ht => (ih t ht).2 (h.2.2.2 t ht).1)
      by_cases h41 : k = 41
      · subst h41; rw [is_3_41] at h; simp only [Bool.and_eq_true, decide_eq_true_eq] at h; obtain rfl := kids0 h.2.2.2; exact .path h.1
      by_cases h42 : k = 42
      · subst h42; rw [is_3_42] at h; simp only [Bool.and_eq_true, decide_eq_true_eq] at h; obtain ⟨t, rfl, g⟩ := kids1 (by decide) h.2.2.2; exact .app (checkB_long h.1) ((ih _ (by simp)).1 g)
      by_cases h43 : k = 43
      · subst h43; rw [is_3_43] at h; simp only [Bool.and_eq_true, decide_eq_true_eq] at h; obtain ⟨t, u, rfl, g1, g2⟩ := kids2 (by decide) h.2.2.2; exact .sealM ((ih _ (by simp)).1 g1) (sg_ok g2)
      rw [is_3_else n a b l h40 h41 h42 h43] at h; cases h
    · by_cases h70 : k = 70
      · subst h70; rw [is_6_70] at h; simp only [Bool.or_eq_true, Bool.and_eq_true, decide_eq_true_eq] at h
        rcases h with h | h
        · obtain ⟨t, rfl, g⟩ := kids1 (by decide) h.2.2.2; exact .val1 (checkB_len h.1) (ex_ok g)
        · obtain ⟨t, u, rfl, g1, g2⟩ := kids2 (by decide) h.2.2.2; exact .val2 (checkB_len h.1) (ty_ok g1) (ex_ok g2)
      by_cases h71 : k = 71
      · subst h71; rw [is_6_71] at h; simp only [Bool.and_eq_true, decide_eq_true_eq] at h; obtain ⟨t, rfl, g⟩ := kids1 (by decide) h.2.2.2; exact .typ (checkB_len h.1) (ty_ok g)
      by_cases h72 : k = 72
      · subst h72; rw [is_6_72] at h; simp only [Bool.and_eq_true, decide_eq_true_eq] at h
        have hc := kidsC h.2.2.2
        exact .data (fun t ht => (con_ok (hc t ht)).2) (.mk (by simp) (checkB_len h.1) (fun t ht => (con_ok (hc t ht)).1) (by decide))
      by_cases h73 : k = 73
      · subst h73; rw [is_6_73] at h; simp only [Bool.and_eq_true, decide_eq_true_eq] at h; obtain ⟨t, rfl, g⟩ := kids1 (by decide) h.2.2.2; exact .str (checkB_len h.1) ((ih _ (by simp)).1 g)
      by_cases h74 : k = 74
      · subst h74; rw [is_6_74] at h; simp only [Bool.and_eq_true, decide_eq_true_eq] at h; obtain ⟨t, rfl, g⟩ := kids1 (by decide) h.2.2.2; exact .sg (checkB_len h.1) (sg_ok g)
      by_cases h75 : k = 75
      · subst h75; rw [is_6_75] at h; simp only [Bool.and_eq_true, decide_eq_true_eq] at h; obtain ⟨t, u, rfl, g1, g2⟩ := kids2 (by decide) h.2.2.2; exact .ftor (checkB_len h.1) (checkB_len h.2.1) (sg_ok g1) ((ih _ (by simp)).1 g2)
      by_cases h76 : k = 76
      · subst h76; rw [is_6_76] at h; simp only [Bool.and_eq_true, decide_eq_true_eq] at h; obtain rfl := kids0 h.2.2.2; exact .opn h.1
      by_cases h77 : k = 77
      · subst h77; rw [is_6_77] at h; simp only [Bool.and_eq_true, decide_eq_true_eq] at h; obtain rfl := kids0 h.2.2.2; exact .inc h.1
      rw [is_6_else n a b l h70 h71 h72 h73 h74 h75 h76 h77] at h; cases h
theorem pr_ok {t : Tr} (h : isB t 7 = true) : ∃ n a b l, t = .node 80 n a b l ∧ ∀ x ∈ l, DcW x := by
  cases t with
  | none => simp [isB] at h
  | node k n a b l =>
    by_cases h80 : k = 80
    · subst h80; rw [is_7_80] at h; simp only [Bool.and_eq_true, decide_eq_true_eq, kidsB_star, List.all_eq_true] at h
      exact ⟨n, a, b, l, rfl, fun x hx => (md_of _ x (Nat.le_refl _)).2 (h.2.2.2 x hx).1⟩
    · rw [is_7_else n a b l h80] at h; cases h
end Go.Av
namespace Go.Av
open Go.Proofs
variable {W0 : World}
set_option maxRecDepth 10000
set_option maxHeartbeats 4000000
def checkE (t : Tr) (c : Int) : Int := if packE t ≠ 0 then packE t else if 60 < t.deep then 7 else if isB t c then 0 else 16
theorem packE_zero {t : Tr} (h : packE t = 0) : t.hole = false ∧ t.cnt ≤ 8192 := by
  unfold packE at h
  split at h
  · cases h
  · rename_i h1
    split at h
    · cases h
    · exact ⟨by simpa using h1, by omega⟩
end Go.Av
namespace Go.Av
theorem sortS_perm (l : List Str) : (sortS l).Perm l := List.mergeSort_perm ..
theorem sortS_le (l : List Str) : (sortS l).Pairwise (· ≤ ·) := by
  have := List.pairwise_mergeSort (le := fun x y : Str => decide (x ≤ y)) (fun a b c h1 h2 => by simp only [decide_eq_true_eq] at *; exact List.le_trans h1 h2) (fun a b => by simp only [Bool.or_eq_true, decide_eq_true_eq]; exact List.le_total a b) l
  exact this.imp fun h => by simpa using h
theorem sortS_lt {l : List Str} (h : l.Nodup) : (sortS l).Pairwise (· < ·) := by
  have hn : (sortS l).Nodup := (sortS_perm l).nodup_iff.2 h
  rw [List.nodup_iff_pairwise_ne] at hn
  refine ((sortS_le l).and hn).imp fun {a b} ⟨h1, h2⟩ => ?_
  rcases List.le_iff_lt_or_eq.1 h1 with h | h
  · exact h
  · exact absurd h h2
theorem sortS_len (l : List Str) : (sortS l).length = l.length := by simp [sortS]
end Go.Av
