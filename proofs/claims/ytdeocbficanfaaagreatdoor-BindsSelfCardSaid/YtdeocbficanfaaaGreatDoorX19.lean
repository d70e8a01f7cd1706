/-
  Go read by value: lemmas (part 19): M0, M1.
-/
import Derived.Test.YtdeocbficanfaaaGreatDoorX18
set_option linter.unusedVariables false
set_option linter.unusedSimpArgs false
set_option linter.unusedSectionVars false
namespace Go.Av
abbrev Path := List Int
def down (p : Path) (i : Nat) : Path := p ++ [(i : Int)]
inductive Hs where
  | mk (label : Str) (ins : List Hs) (bl : Str) (site : Path) (br : Bool) (bins : List Hs)
def Hs.label : Hs → Str | .mk a _ _ _ _ _ => a
def Hs.ins : Hs → List Hs | .mk _ a _ _ _ _ => a
def Hs.bl : Hs → Str | .mk _ _ a _ _ _ => a
def Hs.site : Hs → Path | .mk _ _ _ a _ _ => a
def Hs.br : Hs → Bool | .mk _ _ _ _ a _ => a
def Hs.bins : Hs → List Hs | .mk _ _ _ _ _ a => a
structure Bd where
  label : Str
  site : Path
  br : Bool
  ins : List Hs
structure Lk where
  at' : Path
  space : Str
  name : Str
  site : Path
  rest : List Str
  deriving DecidableEq
structure Wk where
  L : List Lk
  X : List Lk
  E : Int
structure Stt where
  S : List Bd
  Out : List Hs
def findL {α : Type} (f : α → Bool) : List α → Option α
  | [] => none
  | x :: l => match findL f l with
    | some y => some y
    | none => if f x then some x else none
theorem findL_append {α : Type} (f : α → Bool) (b : List α) : ∀ a : List α, findL f (a ++ b) = match findL f b with | some y => some y | none => findL f a
  | [] => by simp only [List.nil_append]; cases findL f b <;> rfl
  | x :: a => by
    simp only [List.cons_append, findL, findL_append f b a]
    cases findL f b <;> simp
theorem findL_one {α : Type} (f : α → Bool) (x : α) : findL f [x] = if f x then some x else none := rfl
theorem findL_some {α : Type} {f : α → Bool} : ∀ {l : List α} {x : α}, findL f l = some x → x ∈ l ∧ f x = true
  | y :: l, x, h => by
    simp only [findL] at h
    cases hl : findL f l with
    | some z => rw [hl] at h; cases h; have := findL_some hl; exact ⟨.tail _ this.1, this.2⟩
    | none =>
      rw [hl] at h
      simp only at h
      split at h
      · cases h; exact ⟨.head _, by assumption⟩
      · cases h
theorem findL_none {α : Type} {f : α → Bool} : ∀ {l : List α}, findL f l = none ↔ ∀ x ∈ l, f x = false
  | [] => by simp [findL]
  | y :: l => by
    have ih := findL_none (f := f) (l := l)
    simp only [findL]
    cases hl : findL f l with
    | some z =>
      have := findL_some hl
      simp only [reduceCtorEq, false_iff]
      intro h
      have := h z (.tail _ this.1)
      simp_all
    | none =>
      rw [hl] at ih
      have ih := ih.1 rfl
      simp only [List.mem_cons, forall_eq_or_imp]
      cases hy : f y <;> simp [ih]
      exact ih
theorem findL_map {α β : Type} (f : β → Bool) (g : α → β) : ∀ l : List α, findL f (l.map g) = (findL (fun x => f (g x)) l).map g
  | [] => rfl
  | x :: l => by
    simp only [List.map_cons, findL, findL_map f g l]
    cases findL (fun x => f (g x)) l with
    | some y => rfl
    | none => simp only [Option.map_none]; split <;> rfl
theorem findL_filter {α : Type} (f q : α → Bool) (h : ∀ x, f x = true → q x = true) : ∀ l : List α, findL f (l.filter q) = findL f l
  | [] => rfl
  | x :: l => by
    have ih := findL_filter f q h l
    by_cases hq : q x = true
    · rw [List.filter_cons_of_pos hq]; simp only [findL, ih]
    · rw [List.filter_cons_of_neg hq, ih]
      have : f x = false := by cases hx : f x with
        | false => rfl
        | true => exact absurd (h x hx) hq
      simp only [findL, this, Bool.false_eq_true, if_false]
      cases findL f l <;> rfl
def isH (x : Str) : Hs → Bool := fun h => h.label == x
def isBd (x : Str) : Bd → Bool := fun b => b.label == x
def put (l : List Hs) (k : Hs) : List Hs := l.filter (fun h => !(h.label == k.label)) ++ [k]
def giveH (p : Path) (h : Hs) : Hs := .mk h.label h.ins h.label p true h.ins
def putAll : List Hs → List Hs → Path → List Hs
  | l, [], _ => l
  | l, h :: k, p => putAll (put l (giveH p h)) k p
def bindB (s : List Bd) (x : Str) (p : Path) (ins : List Hs) : List Bd := s ++ [⟨x, p, false, ins⟩]
def bringB (s : List Bd) (ins : List Hs) (p : Path) : List Bd := s ++ ins.map fun h => ⟨h.label, p, true, h.ins⟩
def goIn (space : Str) : List Str → List Hs → Option (List Hs)
  | [], h => some h
  | x :: r, h => match findL (isH ((if r = [] then space else [109]) ++ 58 :: x)) h with
    | none => none
    | some k => goIn space r k.ins
def one (s : List Bd) (p : Path) (space long : Str) : Option (Lk × List Hs) :=
  match splitB long with
  | [] => none
  | x :: r => match findL (isBd ((if r = [] then space else [109]) ++ 58 :: x)) s with
    | none => none
    | some b => match goIn space r b.ins with
      | none => none
      | some h => some (⟨p, space, long, b.site, if b.br then x :: r else r⟩, h)
def refer (w : Wk) (s : List Bd) (p : Path) (space long : Str) : Wk × List Hs :=
  match one s p space long with
  | none => ({ w with E := 8 }, [])
  | some (k, h) => ({ w with L := w.L ++ [k] }, h)
def foldK {σ : Type} (f : Nat → Tr → σ → σ) : Nat → List Tr → σ → σ
  | _, [], x => x
  | i, t :: l, x => foldK f (i + 1) l (f i t x)
theorem foldK_drop {σ : Type} (f : Nat → Tr → σ → σ) {l : List Tr} {i : Nat} (h : i < l.length) (x : σ) : foldK f i (l.drop i) x = foldK f (i + 1) (l.drop (i + 1)) (f i l[i] x) := by
  rw [List.drop_eq_getElem_cons h]; rfl
theorem foldK_end {σ : Type} (f : Nat → Tr → σ → σ) {l : List Tr} {i : Nat} (h : l.length ≤ i) (x : σ) : foldK f i (l.drop i) x = x := by
  rw [List.drop_of_length_le h]; rfl
def Tr.kids : Tr → List Tr
  | .none => []
  | .node _ _ _ _ l => l
def Tr.mark : Tr → Str
  | .none => []
  | .node _ _ _ b _ => b
def Tr.kid (t : Tr) (i : Nat) : Tr := t.kids.getD i .none
def typW : Nat → List Bd → Tr → Path → Wk → Wk
  | 0, _, _, _, w => w
  | N + 1, s, t, p, w =>
    foldK (fun i k w => typW N (if t.kind = 7 ∨ t.kind = 62 ∨ t.kind = 72 then bindB s (116 :: 58 :: t.name) p [] else s) k (down p i) w) 0 t.kids
      (if t.kind = 4 then (refer w s p [116] t.name).1 else w)
def exprW : Nat → List Bd → Tr → Path → Wk → Wk
  | 0, _, _, _, w => w
  | N + 1, s, t, p, w =>
    foldK (fun i k w =>
      if (t.kind = 24 ∧ i = 0) ∨ (t.kind = 33 ∧ i = 1) then typW N s k (down p i) w
      else exprW N (if t.kind = 24 ∨ (t.kind = 29 ∧ i = 1) then bindB s (118 :: 58 :: t.name) p [] else if t.kind = 34 then bindB s (118 :: 58 :: t.mark) p [] else s) k (down p i) w) 0 t.kids
      (if t.kind = 23 then (refer w s p [118] t.name).1 else w)
def Stt.put (x : Stt) (lab : Str) (p : Path) (ins : List Hs) : Stt := ⟨bindB x.S lab p ins, Av.put x.Out (.mk lab ins lab p false ins)⟩
def putKids (p : Path) : List Tr → Stt → Stt
  | [], x => x
  | t :: l, x => putKids p l (x.put (118 :: 58 :: t.name) p [])
def dataW (N : Nat) (x : Stt) (t : Tr) (p : Path) (w : Wk) : Wk × Stt :=
  (typW N x.S t p w, putKids p t.kids (x.put (116 :: 58 :: t.name) p []))
mutual
def sigW : Nat → List Bd → Tr → Path → Wk → Wk × List Hs
  | 0, _, _, _, w => (w, [])
  | N + 1, s, t, p, w =>
    if t.kind = 51 then refer w s p [115] t.name
    else if t.kind = 52 then
      let r := sigW N s (t.kid 0) (down p 0) w
      (typW N s (t.kid 1) (down p 1) r.1, r.2)
    else
      let r := foldK (fun i k x => specW N x.2 k (down p i) x.1) 0 t.kids (w, ⟨s, []⟩)
      (r.1, r.2.Out)
def specW : Nat → Stt → Tr → Path → Wk → Wk × Stt
  | 0, x, _, _, w => (w, x)
  | N + 1, x, t, p, w =>
    if t.kind = 60 then (typW N x.S (t.kid 0) (down p 0) w, x.put (118 :: 58 :: t.name) p [])
    else if t.kind = 61 then (foldK (fun i k w => typW N x.S k (down p i) w) 0 t.kids w, x.put (116 :: 58 :: t.name) p [])
    else if t.kind = 62 then dataW (N + 1) x t p w
    else if t.kind = 63 then
      let r := sigW N x.S (t.kid 0) (down p 0) w
      (r.1, x.put (109 :: 58 :: t.name) p r.2)
    else if t.kind = 64 then
      let r := sigW N x.S (t.kid 0) (down p 0) w
      (r.1, ⟨bringB x.S r.2 p, putAll x.Out r.2 p⟩)
    else (w, x)
end
def linkOf (out : List Hs) (p : Path) (x : Str) : Lk :=
  match findL (isH x) out with
  | some h => ⟨p, x.take 1, x.drop 2, h.site, if h.br then [x.drop 2] else []⟩
  | none => ⟨[], [], [], [], []⟩
def endsL (out : List Hs) (p : Path) : List Lk := (sortS (out.map Hs.label)).map (linkOf out p)
mutual
def modW : Nat → List Bd → Tr → Path → Wk → Wk × List Hs
  | 0, _, _, _, w => (w, [])
  | N + 1, s, t, p, w =>
    if t.kind = 41 then refer w s p [109] t.name
    else if t.kind = 42 then
      let r := refer w s p [102] t.name
      ((modW N s (t.kid 0) (down p 0) r.1).1, r.2)
    else if t.kind = 43 then
      sigW N s (t.kid 1) (down p 1) (modW N s (t.kid 0) (down p 0) w).1
    else
      let r := foldK (fun i k x => declW N x.2 k (down p i) x.1) 0 t.kids (w, ⟨s, []⟩)
      ({ r.1 with X := r.1.X ++ endsL r.2.Out p }, r.2.Out)
def declW : Nat → Stt → Tr → Path → Wk → Wk × Stt
  | 0, x, _, _, w => (w, x)
  | N + 1, x, t, p, w =>
    if t.kind = 70 then
      (exprW N x.S (t.kid (t.kids.length - 1)) (down p (t.kids.length - 1)) (if t.kids.length = 2 then typW N x.S (t.kid 0) (down p 0) w else w), x.put (118 :: 58 :: t.name) p [])
    else if t.kind = 71 then (typW N x.S (t.kid 0) (down p 0) w, x.put (116 :: 58 :: t.name) p [])
    else if t.kind = 72 then dataW (N + 1) x t p w
    else if t.kind = 73 then
      let r := modW N x.S (t.kid 0) (down p 0) w
      (r.1, x.put (109 :: 58 :: t.name) p r.2)
    else if t.kind = 74 then
      let r := sigW N x.S (t.kid 0) (down p 0) w
      (r.1, ⟨bindB x.S (115 :: 58 :: t.name) p r.2, x.Out⟩)
    else if t.kind = 75 then
      let r := sigW N x.S (t.kid 0) (down p 0) w
      let q := modW N (bindB x.S (109 :: 58 :: t.mark) p r.2) (t.kid 1) (down p 1) r.1
      (q.1, ⟨bindB x.S (102 :: 58 :: t.name) p q.2, x.Out⟩)
    else
      let r := refer w x.S p [109] t.name
      (r.1, ⟨bringB x.S r.2 p, if t.kind = 77 then putAll x.Out r.2 p else x.Out⟩)
end
def seenH (b : Bd) : Hs := .mk b.label [] b.label b.site b.br b.ins
def seenL : List Bd → List Hs → List Hs
  | [], l => l
  | b :: s, l => seenL s (put l (seenH b))
def progW (N : Nat) (t : Tr) : Wk :=
  let r := foldK (fun i k x => declW N x.2 k (down [] i) x.1) 0 t.kids (⟨[], [], 0⟩, ⟨[], []⟩)
  { r.1 with X := r.1.X ++ endsL r.2.Out [] ++ endsL (seenL r.2.S []) [] }
def refK (k : Int) : Bool := k == 23 || k == 4 || k == 41 || k == 76 || k == 77 || k == 42 || k == 51
/- What a tree is, as far as the walk goes by it. -/
inductive TyW : Tr → Prop
  | mk {k n : Int} {a b : Str} {l : List Tr} (h4 : k = 4 → longB a = true) (ha : a.length ≤ 128) (hl : ∀ t ∈ l, TyW t) (hr : refK k = true → k = 4) : TyW (.node k n a b l)
inductive ExW : Tr → Prop
  | var {n : Int} {a b : Str} (h : longB a = true) : ExW (.node 23 n a b [])
  | lam {n : Int} {a b : Str} {t e : Tr} (ha : a.length ≤ 128) (h1 : TyW t) (h2 : ExW e) : ExW (.node 24 n a b [t, e])
  | bnd {n : Int} {a b : Str} {t e : Tr} (ha : a.length ≤ 128) (h1 : ExW t) (h2 : ExW e) : ExW (.node 29 n a b [t, e])
  | arm {n : Int} {a b : Str} {e : Tr} (hb : b.length ≤ 128) (h2 : ExW e) : ExW (.node 34 n a b [e])
  | fold {n : Int} {a b : Str} {e t : Tr} {l : List Tr} (h1 : ExW e) (h2 : TyW t) (h3 : ∀ x ∈ l, ExW x) : ExW (.node 33 n a b (e :: t :: l))
  | other {k n : Int} {a b : Str} {l : List Tr} (h1 : k ≠ 23) (h2 : k ≠ 24) (h3 : k ≠ 29) (h4 : k ≠ 33) (h5 : k ≠ 34) (hl : ∀ t ∈ l, ExW t) (hr : refK k = false) : ExW (.node k n a b l)
mutual
inductive SgW : Tr → Prop
  | name {n : Int} {a b : Str} (h : longB a = true) : SgW (.node 51 n a b [])
  | wh {n : Int} {a b : Str} {s t : Tr} (h1 : SgW s) (h2 : TyW t) : SgW (.node 52 n a b [s, t])
  | body {n : Int} {a b : Str} {l : List Tr} (hl : ∀ t ∈ l, SpW t) : SgW (.node 50 n a b l)
inductive SpW : Tr → Prop
  | val {n : Int} {a b : Str} {t : Tr} (ha : a.length ≤ 128) (h : TyW t) : SpW (.node 60 n a b [t])
  | typ0 {n : Int} {a b : Str} (ha : a.length ≤ 128) : SpW (.node 61 n a b [])
  | typ1 {n : Int} {a b : Str} {t : Tr} (ha : a.length ≤ 128) (h : TyW t) : SpW (.node 61 n a b [t])
  | data {n : Int} {a b : Str} {l : List Tr} (h8 : ∀ t ∈ l, t.kind = 8) (h : TyW (.node 62 n a b l)) : SpW (.node 62 n a b l)
  | str {n : Int} {a b : Str} {s : Tr} (ha : a.length ≤ 128) (h : SgW s) : SpW (.node 63 n a b [s])
  | inc {n : Int} {a b : Str} {s : Tr} (h : SgW s) : SpW (.node 64 n a b [s])
  | share {n : Int} {a b : Str} : SpW (.node 65 n a b [])
end
mutual
inductive MdW : Tr → Prop
  | path {n : Int} {a b : Str} (h : longB a = true) : MdW (.node 41 n a b [])
  | app {n : Int} {a b : Str} {m : Tr} (h : longB a = true) (h1 : MdW m) : MdW (.node 42 n a b [m])
  | sealM {n : Int} {a b : Str} {m s : Tr} (h1 : MdW m) (h2 : SgW s) : MdW (.node 43 n a b [m, s])
  | body {n : Int} {a b : Str} {l : List Tr} (hl : ∀ t ∈ l, DcW t) : MdW (.node 40 n a b l)
inductive DcW : Tr → Prop
  | val1 {n : Int} {a b : Str} {e : Tr} (ha : a.length ≤ 128) (h : ExW e) : DcW (.node 70 n a b [e])
  | val2 {n : Int} {a b : Str} {t e : Tr} (ha : a.length ≤ 128) (h1 : TyW t) (h : ExW e) : DcW (.node 70 n a b [t, e])
  | typ {n : Int} {a b : Str} {t : Tr} (ha : a.length ≤ 128) (h1 : TyW t) : DcW (.node 71 n a b [t])
  | data {n : Int} {a b : Str} {l : List Tr} (h8 : ∀ t ∈ l, t.kind = 8) (h : TyW (.node 72 n a b l)) : DcW (.node 72 n a b l)
  | str {n : Int} {a b : Str} {m : Tr} (ha : a.length ≤ 128) (h : MdW m) : DcW (.node 73 n a b [m])
  | sg {n : Int} {a b : Str} {s : Tr} (ha : a.length ≤ 128) (h : SgW s) : DcW (.node 74 n a b [s])
  | ftor {n : Int} {a b : Str} {s m : Tr} (ha : a.length ≤ 128) (hb : b.length ≤ 128) (h1 : SgW s) (h2 : MdW m) : DcW (.node 75 n a b [s, m])
  | opn {n : Int} {a b : Str} (h : longB a = true) : DcW (.node 76 n a b [])
  | inc {n : Int} {a b : Str} (h : longB a = true) : DcW (.node 77 n a b [])
end
/- How the walk's lists lie in values. -/
mutual
def Hs.av : Hs → List AV
  | .mk a i b s r j => [.str a, .sl 6 (Hs.avs i) .shut, .str b, .sl 1 (ints s) .shut, .bool r, .sl 6 (Hs.avs j) .shut]
def Hs.avs : List Hs → List (List AV)
  | [] => []
  | h :: l => h.av :: Hs.avs l
end
theorem Hs.avs_map : ∀ l : List Hs, Hs.avs l = l.map Hs.av
  | [] => rfl
  | h :: l => by simp [Hs.avs, Hs.avs_map l]
@[simp] theorem hss_len (l : List Hs) : (Hs.avs l).length = l.length := by simp [Hs.avs_map]
@[simp] theorem hss_eq_nil (l : List Hs) : Hs.avs l = [] ↔ l = [] := by simp [Hs.avs_map]
theorem Hs.av_eq (h : Hs) : h.av = [.str h.label, .sl 6 (Hs.avs h.ins) .shut, .str h.bl, .sl 1 (ints h.site) .shut, .bool h.br, .sl 6 (Hs.avs h.bins) .shut] := by cases h; simp only [Hs.av]; rfl
@[simp] theorem hss_get (l : List Hs) (i : Nat) : (Hs.avs l)[i]? = (l[i]?).map fun h => [.str h.label, .sl 6 (Hs.avs h.ins) .shut, .str h.bl, .sl 1 (ints h.site) .shut, .bool h.br, .sl 6 (Hs.avs h.bins) .shut] := by
  rw [Hs.avs_map, List.getElem?_map]; cases l[i]? <;> simp [Hs.av_eq]
@[simp] theorem hss_getE (l : List Hs) (i : Nat) (h : i < (Hs.avs l).length) : (Hs.avs l)[i] = [.str (l[i]'(by simpa using h)).label, .sl 6 (Hs.avs (l[i]'(by simpa using h)).ins) .shut, .str (l[i]'(by simpa using h)).bl, .sl 1 (ints (l[i]'(by simpa using h)).site) .shut, .bool (l[i]'(by simpa using h)).br, .sl 6 (Hs.avs (l[i]'(by simpa using h)).bins) .shut] := by
  simp [Hs.avs_map, Hs.av_eq]
@[simp] theorem hss_ok (l : List Hs) : (Hs.avs l).all (fun x => x.all okCell) = true := by simp [Hs.avs_map, Hs.av_eq]
mutual
theorem Hs.data : ∀ (h : Hs) (n m : Nat), clnL n m h.av = h.av
  | .mk a i b s r j, n, m => by simp [Hs.av, Hs.datas i n m, Hs.datas j n m]
theorem Hs.datas : ∀ (l : List Hs) (n m : Nat), clnLL n m (Hs.avs l) = Hs.avs l
  | [], _, _ => rfl
  | h :: l, n, m => by simp only [Hs.avs, clnLL, Hs.data h n m, Hs.datas l n m]
end
@[simp] theorem hss_cln (n m : Nat) (l : List Hs) : clnLL n m (Hs.avs l) = Hs.avs l := Hs.datas l n m
def Bd.av (b : Bd) : List AV := [.str b.label, .sl 1 (ints b.site) .shut, .bool b.br, .sl 6 (Hs.avs b.ins) .shut]
def bds (l : List Bd) : List (List AV) := l.map Bd.av
@[simp] theorem bds_len (l : List Bd) : (bds l).length = l.length := by simp [bds]
@[simp] theorem bds_eq_nil (l : List Bd) : bds l = [] ↔ l = [] := by simp [bds]
@[simp] theorem bds_ok (l : List Bd) : (bds l).all (fun x => x.all okCell) = true := by simp [bds, Bd.av]
@[simp] theorem bds_get (l : List Bd) (i : Nat) : (bds l)[i]? = (l[i]?).map fun b => [.str b.label, .sl 1 (ints b.site) .shut, .bool b.br, .sl 6 (Hs.avs b.ins) .shut] := by simp [bds]; rfl
@[simp] theorem bds_getE (l : List Bd) (i : Nat) (h : i < (bds l).length) : (bds l)[i] = [.str (l[i]'(by simpa using h)).label, .sl 1 (ints (l[i]'(by simpa using h)).site) .shut, .bool (l[i]'(by simpa using h)).br, .sl 6 (Hs.avs (l[i]'(by simpa using h)).ins) .shut] := by simp [bds, Bd.av]
@[simp] theorem bds_cln (n m : Nat) (l : List Bd) : clnLL n m (bds l) = bds l := clnLL_map (fun _ _ _ => by simp [Bd.av]) n m l
def Lk.av (k : Lk) : List AV := [.sl 1 (ints k.at') .shut, .str k.space, .str k.name, .sl 1 (ints k.site) .shut, .sl 1 (strs k.rest) .shut]
def lks (l : List Lk) : List (List AV) := l.map Lk.av
@[simp] theorem lks_len (l : List Lk) : (lks l).length = l.length := by simp [lks]
@[simp] theorem lks_eq_nil (l : List Lk) : lks l = [] ↔ l = [] := by simp [lks]
@[simp] theorem lks_ok (l : List Lk) : (lks l).all (fun x => x.all okCell) = true := by simp [lks, Lk.av]
@[simp] theorem lks_get (l : List Lk) (i : Nat) : (lks l)[i]? = (l[i]?).map fun k => [.sl 1 (ints k.at') .shut, .str k.space, .str k.name, .sl 1 (ints k.site) .shut, .sl 1 (strs k.rest) .shut] := by simp [lks]; rfl
@[simp] theorem lks_getE (l : List Lk) (i : Nat) (h : i < (lks l).length) : (lks l)[i] = [.sl 1 (ints (l[i]'(by simpa using h)).at') .shut, .str (l[i]'(by simpa using h)).space, .str (l[i]'(by simpa using h)).name, .sl 1 (ints (l[i]'(by simpa using h)).site) .shut, .sl 1 (strs (l[i]'(by simpa using h)).rest) .shut] := by simp [lks, Lk.av]
@[simp] theorem lks_cln (n m : Nat) (l : List Lk) : clnLL n m (lks l) = lks l := clnLL_map (fun _ _ _ => by simp [Lk.av]) n m l
theorem lks_append (a b : List Lk) : lks (a ++ b) = lks a ++ lks b := by simp [lks]
end Go.Av
namespace Go.Av
inductive HsOK (U : List Str) : List Hs → Prop
  | mk {l : List Hs} (hn : (l.map Hs.label).Nodup) (hu : ∀ h ∈ l, h.label ∈ U) (h2 : ∀ h ∈ l, 2 ≤ h.label.length) (h3 : ∀ h ∈ l, h.label.length ≤ 200)
      (hs : ∀ h ∈ l, h.site.length ≤ 10000) (hk : ∀ h ∈ l, HsOK U h.ins) : HsOK U l
structure BdOK (U : List Str) (b : Bd) : Prop where
  lo : 2 ≤ b.label.length
  hi : b.label.length ≤ 200
  site : b.site.length ≤ 10000
  ins : HsOK U b.ins
def SOK (U : List Str) (s : List Bd) : Prop := ∀ b ∈ s, BdOK U b
theorem HsOK.nodup {U : List Str} {l : List Hs} : HsOK U l → (l.map Hs.label).Nodup | .mk h _ _ _ _ _ => h
theorem HsOK.inU {U : List Str} {l : List Hs} : HsOK U l → ∀ h ∈ l, h.label ∈ U | .mk _ h _ _ _ _ => h
theorem HsOK.lo {U : List Str} {l : List Hs} : HsOK U l → ∀ h ∈ l, 2 ≤ h.label.length | .mk _ _ h _ _ _ => h
theorem HsOK.hi {U : List Str} {l : List Hs} : HsOK U l → ∀ h ∈ l, h.label.length ≤ 200 | .mk _ _ _ h _ _ => h
theorem HsOK.site {U : List Str} {l : List Hs} : HsOK U l → ∀ h ∈ l, h.site.length ≤ 10000 | .mk _ _ _ _ h _ => h
theorem HsOK.ins {U : List Str} {l : List Hs} : HsOK U l → ∀ h ∈ l, HsOK U h.ins | .mk _ _ _ _ _ h => h
theorem HsOK.nil {U : List Str} : HsOK U [] := .mk (by simp) (by simp) (by simp) (by simp) (by simp) (by simp)
theorem length_le_of_nodup {α : Type} [DecidableEq α] : ∀ {l U : List α}, l.Nodup → (∀ x ∈ l, x ∈ U) → l.length ≤ U.length
  | [], _, _, _ => Nat.zero_le _
  | x :: l, U, hn, hu => by
    have hx : x ∈ U := hu x (.head _)
    have hn' := List.nodup_cons.1 hn
    have := length_le_of_nodup (l := l) (U := U.erase x) hn'.2 fun y hy => by
      have hne : y ≠ x := fun e => hn'.1 (e ▸ hy)
      exact (List.mem_erase_of_ne hne).2 (hu y (.tail _ hy))
    rw [List.length_erase_of_mem hx] at this
    have hpos : 0 < U.length := List.length_pos_of_mem hx
    simp only [List.length_cons]
    omega
theorem HsOK.len {U : List Str} {l : List Hs} (h : HsOK U l) : l.length ≤ U.length := by
  have := length_le_of_nodup (l := l.map Hs.label) (U := U) h.nodup fun x hx => by
    obtain ⟨k, hk, rfl⟩ := List.mem_map.1 hx
    exact h.inU k hk
  simpa using this
theorem put_ok {U : List Str} {l : List Hs} {k : Hs} (h : HsOK U l) (hu : k.label ∈ U) (h2 : 2 ≤ k.label.length) (h3 : k.label.length ≤ 200) (hs : k.site.length ≤ 10000) (hk : HsOK U k.ins) : HsOK U (put l k) := by
  have mem : ∀ x ∈ put l k, x = k ∨ x ∈ l := fun x hx => by
    rcases List.mem_append.1 hx with h | h
    · exact .inr (List.mem_filter.1 h).1
    · exact .inl (List.mem_singleton.1 h)
  have all : ∀ p : Hs → Prop, p k → (∀ x ∈ l, p x) → ∀ x ∈ put l k, p x := fun p pk pl x hx => by
    rcases mem x hx with rfl | h
    · exact pk
    · exact pl x h
  refine .mk ?_ (all _ hu h.inU) (all _ h2 h.lo) (all _ h3 h.hi) (all _ hs h.site) (all _ hk h.ins)
  unfold put
  rw [List.map_append, List.nodup_append]
  refine ⟨?_, by simp, ?_⟩
  · have := h.nodup
    rw [List.nodup_iff_pairwise_ne, List.pairwise_map] at this ⊢
    exact this.filter _
  · intro a ha b hb
    simp only [List.map_cons, List.map_nil, List.mem_singleton] at hb
    subst hb
    obtain ⟨x, hx, rfl⟩ := List.mem_map.1 ha
    have := (List.mem_filter.1 hx).2
    simpa using this
theorem put_len (l : List Hs) (k : Hs) : (put l k).length ≤ l.length + 1 := by
  unfold put
  have := List.length_filter_le (fun h : Hs => !(h.label == k.label)) l
  simp; omega
theorem giveH_ok {U : List Str} {h : Hs} {p : Path} (hp : p.length ≤ 10000) {l k : List Hs} (hl : HsOK U l) (hk : HsOK U k) (hm : h ∈ k) : HsOK U (put l (giveH p h)) :=
  put_ok hl (hk.inU h hm) (hk.lo h hm) (hk.hi h hm) hp (hk.ins h hm)
theorem HsOK.tail {U : List Str} {h : Hs} {k : List Hs} (hk : HsOK U (h :: k)) : HsOK U k :=
  .mk (by have := hk.nodup; simp only [List.map_cons, List.nodup_cons] at this; exact this.2) (fun x hx => hk.inU x (.tail _ hx)) (fun x hx => hk.lo x (.tail _ hx)) (fun x hx => hk.hi x (.tail _ hx)) (fun x hx => hk.site x (.tail _ hx)) (fun x hx => hk.ins x (.tail _ hx))
theorem putAll_ok {U : List Str} {p : Path} (hp : p.length ≤ 10000) : ∀ {k l : List Hs}, HsOK U l → HsOK U k → HsOK U (putAll l k p)
  | [], _, h, _ => h
  | h :: k, l, hl, hk => show HsOK U (putAll (put l (giveH p h)) k p) from putAll_ok hp (giveH_ok hp hl hk (.head _)) hk.tail
theorem bindB_ok {U : List Str} {s : List Bd} {x : Str} {p : Path} {ins : List Hs} (hs : SOK U s) (h2 : 2 ≤ x.length) (h3 : x.length ≤ 200) (hp : p.length ≤ 10000) (hi : HsOK U ins) : SOK U (bindB s x p ins) := fun b hb => by
  rcases List.mem_append.1 hb with h | h
  · exact hs b h
  · rw [List.mem_singleton.1 h]; exact ⟨h2, h3, hp, hi⟩
theorem bringB_ok {U : List Str} {s : List Bd} {p : Path} {ins : List Hs} (hs : SOK U s) (hp : p.length ≤ 10000) (hi : HsOK U ins) : SOK U (bringB s ins p) := fun b hb => by
  rcases List.mem_append.1 hb with h | h
  · exact hs b h
  · obtain ⟨k, hk, rfl⟩ := List.mem_map.1 h
    exact ⟨hi.lo k hk, hi.hi k hk, hp, hi.ins k hk⟩
theorem goIn_ok {U : List Str} {sp : Str} : ∀ {l : List Str} {h h' : List Hs}, HsOK U h → goIn sp l h = some h' → HsOK U h'
  | [], h, h', hk, e => by simp only [goIn] at e; cases e; exact hk
  | x :: r, h, h', hk, e => by
    simp only [goIn] at e
    split at e
    · cases e
    · rename_i k hf
      exact goIn_ok (hk.ins k (findL_some hf).1) e
theorem one_ok {U : List Str} {s : List Bd} {p : Path} {sp long : Str} {k : Lk} {h : List Hs} (hs : SOK U s) (e : one s p sp long = some (k, h)) : HsOK U h := by
  unfold one at e
  split at e
  · cases e
  · split at e
    · cases e
    · rename_i b hb
      split at e
      · cases e
      · rename_i h' hg
        cases e
        exact goIn_ok (hs b (findL_some hb).1).ins hg
theorem refer_ok {U : List Str} {w : Wk} {s : List Bd} {p : Path} {sp long : Str} (hs : SOK U s) : HsOK U (refer w s p sp long).2 := by
  unfold refer
  split
  · exact .nil
  · rename_i k h e; exact one_ok hs e
theorem refer_L (w : Wk) (s : List Bd) (p : Path) (sp long : Str) : (refer w s p sp long).1.L.length ≤ w.L.length + 1 ∧ (refer w s p sp long).1.X = w.X := by
  unfold refer
  split <;> simp
def labK (k : Int) (a : Str) : List Str :=
  if k = 60 ∨ k = 70 ∨ k = 8 then [118 :: 58 :: a] else if k = 61 ∨ k = 62 ∨ k = 71 ∨ k = 72 then [116 :: 58 :: a] else if k = 63 ∨ k = 73 then [109 :: 58 :: a] else []
mutual
def Tr.labs : Tr → List Str
  | .none => []
  | .node k _ a _ l => labK k a ++ Tr.labss l
def Tr.labss : List Tr → List Str
  | [] => []
  | t :: l => t.labs ++ Tr.labss l
end
theorem labK_len (k : Int) (a : Str) : (labK k a).length ≤ 1 := by unfold labK; (repeat' split) <;> simp
mutual
theorem labs_len : ∀ t : Tr, t.labs.length ≤ t.cnt
  | .none => Nat.le_refl _
  | .node k _ a _ l => by have := labss_len l; have := labK_len k a; simp only [Tr.labs, Tr.cnt, List.length_append]; omega
theorem labss_len : ∀ l : List Tr, (Tr.labss l).length ≤ Tr.cnts l
  | [] => Nat.le_refl _
  | t :: l => by have := labs_len t; have := labss_len l; simp only [Tr.labss, Tr.cnts, List.length_append]; omega
end
def InU (U : List Str) (t : Tr) : Prop := ∀ x ∈ t.labs, x ∈ U
def InUs (U : List Str) (l : List Tr) : Prop := ∀ x ∈ Tr.labss l, x ∈ U
theorem InUs.head {U : List Str} {t : Tr} {l : List Tr} (h : InUs U (t :: l)) : InU U t := fun x hx => h x (by simp [Tr.labss, hx])
theorem InUs.tail {U : List Str} {t : Tr} {l : List Tr} (h : InUs U (t :: l)) : InUs U l := fun x hx => h x (by simp [Tr.labss, hx])
theorem InUs.mem {U : List Str} : ∀ {l : List Tr}, InUs U l → ∀ t ∈ l, InU U t
  | t :: l, h, x, hx => by
    rcases List.mem_cons.1 hx with rfl | hx
    · exact h.head
    · exact h.tail.mem x hx
theorem InU.kids {U : List Str} {k n : Int} {a b : Str} {l : List Tr} (h : InU U (.node k n a b l)) : InUs U l := fun x hx => h x (by simp [Tr.labs, hx])
theorem InU.self {U : List Str} {k n : Int} {a b : Str} {l : List Tr} (h : InU U (.node k n a b l)) : ∀ x ∈ labK k a, x ∈ U := fun x hx => h x (by simp [Tr.labs, hx])
theorem foldK_cost {σ : Type} {f : Nat → Tr → σ → σ} (R : Nat → σ → Prop) : ∀ (l : List Tr) (i c : Nat) (x : σ), (∀ t ∈ l, ∀ j c x, R c x → R (c + t.cnt) (f j t x)) → R c x → R (c + Tr.cnts l) (foldK f i l x)
  | [], _, _, _, _, h => h
  | t :: l, i, c, x, hs, h => by
    have := foldK_cost R l (i + 1) (c + t.cnt) (f i t x) (fun u hu => hs u (.tail _ hu)) (hs t (.head _) i c x h)
    simpa only [Tr.cnts, foldK, Nat.add_assoc] using this
def LenOK (w w' : Wk) (c : Nat) : Prop := w'.L.length ≤ w.L.length + c ∧ w'.X = w.X
theorem LenOK.refl (w : Wk) (c : Nat) : LenOK w w c := ⟨by omega, rfl⟩
theorem LenOK.trans {w w' w'' : Wk} {c d : Nat} (h : LenOK w w' c) (k : LenOK w' w'' d) : LenOK w w'' (c + d) := ⟨by have := h.1; have := k.1; omega, k.2.trans h.2⟩
theorem LenOK.mono {w w' : Wk} {c d : Nat} (h : LenOK w w' c) (k : c ≤ d) : LenOK w w' d := ⟨by have := h.1; omega, h.2⟩
theorem typW_len : ∀ (N : Nat) (s : List Bd) (t : Tr) (p : Path) (w : Wk), LenOK w (typW N s t p w) t.cnt
  | 0, _, _, _, w => .refl _ _
  | N + 1, s, .none, p, w => by simp [typW, Tr.kids, foldK, Tr.kind, Tr.cnt, LenOK]
  | N + 1, s, .node k n a b l, p, w => by
    simp only [typW, Tr.kids, Tr.cnt, Tr.kind]
    have h0 : LenOK w (if k = 4 then (refer w s p [116] (Tr.node k n a b l).name).1 else w) 1 := by
      split
      · exact refer_L ..
      · exact .refl _ _
    exact foldK_cost (fun c x => LenOK w x c) l 0 1 _ (fun t _ j c x h => h.trans (typW_len N _ t _ x)) h0
theorem exprW_len : ∀ (N : Nat) (s : List Bd) (t : Tr) (p : Path) (w : Wk), LenOK w (exprW N s t p w) t.cnt
  | 0, _, _, _, w => .refl _ _
  | N + 1, s, .none, p, w => by simp [exprW, Tr.kids, foldK, Tr.kind, Tr.cnt, LenOK]
  | N + 1, s, .node k n a b l, p, w => by
    simp only [exprW, Tr.kids, Tr.cnt, Tr.kind]
    have h0 : LenOK w (if k = 23 then (refer w s p [118] (Tr.node k n a b l).name).1 else w) 1 := by
      split
      · exact refer_L ..
      · exact .refl _ _
    refine foldK_cost (fun c x => LenOK w x c) l 0 1 _ (fun t _ j c x h => ?_) h0
    by_cases hc : k = 24 ∧ j = 0 ∨ k = 33 ∧ j = 1
    · simp only [hc, if_true]; exact h.trans (typW_len N _ t _ x)
    · simp only [hc, if_false]; exact h.trans (exprW_len N _ t _ x)
theorem TyW.len {t : Tr} (h : TyW t) : t.name.length ≤ 128 := by cases h; assumption
theorem longB_len {a : Str} (h : longB a = true) : a.length ≤ 128 := by
  unfold longB at h
  simp only [Bool.and_eq_true, decide_eq_true_eq] at h
  exact h.1
theorem down_len (p : Path) (i : Nat) : (down p i).length = p.length + 1 := by simp [down]
structure SttOK (U : List Str) (x x' : Stt) (c : Nat) : Prop where
  s : SOK U x'.S
  o : HsOK U x'.Out
  len : x'.S.length ≤ x.S.length + (U.length + 1) * c
theorem SttOK.refl {U : List Str} {x : Stt} (hs : SOK U x.S) (ho : HsOK U x.Out) (c : Nat) : SttOK U x x c := ⟨hs, ho, by omega⟩
theorem SttOK.put {U : List Str} {x x' : Stt} {c d : Nat} {lab : Str} {p : Path} {ins : List Hs} (h : SttOK U x x' c) (hd : c + 1 ≤ d) (hu : lab ∈ U) (h2 : 2 ≤ lab.length) (h3 : lab.length ≤ 200) (hp : p.length ≤ 10000) (hi : HsOK U ins) : SttOK U x (x'.put lab p ins) d := by
  refine ⟨bindB_ok h.s h2 h3 hp hi, put_ok h.o hu h2 h3 hp hi, ?_⟩
  have := h.len
  have e : (U.length + 1) * (c + 1) = (U.length + 1) * c + (U.length + 1) := Nat.mul_succ _ _
  have : (U.length + 1) * (c + 1) ≤ (U.length + 1) * d := Nat.mul_le_mul_left _ hd
  simp only [Stt.put, bindB, List.length_append, List.length_singleton]
  omega
theorem SttOK.mono {U : List Str} {x x' : Stt} {c d : Nat} (h : SttOK U x x' c) (hd : c ≤ d) : SttOK U x x' d :=
  ⟨h.s, h.o, Nat.le_trans h.len (Nat.add_le_add_left (Nat.mul_le_mul_left _ hd) _)⟩
theorem SttOK.trans {U : List Str} {x x' x'' : Stt} {c d : Nat} (h : SttOK U x x' c) (k : SttOK U x' x'' d) : SttOK U x x'' (c + d) :=
  ⟨k.s, k.o, by have := h.len; have := k.len; have e : (U.length + 1) * (c + d) = (U.length + 1) * c + (U.length + 1) * d := Nat.mul_add _ _ _; omega⟩
theorem putKids_ok {U : List Str} {p : Path} (hp : p.length ≤ 10000) : ∀ {l : List Tr} {x x' : Stt} {c : Nat}, SttOK U x x' c → (∀ t ∈ l, t.kind = 8) → (∀ t ∈ l, t.name.length ≤ 128) → InUs U l → SttOK U x (putKids p l x') (c + l.length)
  | [], _, _, _, h, _, _, _ => h
  | t :: l, x, x', c, h, h8, hn, hu => by
    have h1 : (118 :: 58 :: t.name) ∈ U := by
      have := h8 t (.head _)
      cases t with
      | none => simp [Tr.kind] at this
      | node k n a b ks =>
        have hk : k = 8 := this
        exact hu.head.self _ (by simp [labK, hk, Tr.name])
    have := hn t (.head _)
    have := putKids_ok hp (h.put (d := c + 1) (lab := 118 :: 58 :: t.name) (p := p) (ins := []) (Nat.le_refl _) h1 (by simp) (by simp; omega) hp .nil) (fun u hu => h8 u (.tail _ hu)) (fun u hu => hn u (.tail _ hu)) hu.tail
    simpa only [putKids, List.length_cons, Nat.add_assoc, Nat.add_comm 1] using this
theorem kinds8_len : ∀ {l : List Tr}, (∀ t ∈ l, t.kind = 8) → l.length ≤ Tr.cnts l
  | [], _ => Nat.le_refl _
  | t :: l, h => by
    have := kinds8_len (l := l) fun u hu => h u (.tail _ hu)
    have h8 := h t (.head _)
    cases t with
    | none => simp [Tr.kind] at h8
    | node k n a b ks => simp only [List.length_cons, Tr.cnts, Tr.cnt]; omega
theorem dataW_ok {U : List Str} {N : Nat} {x : Stt} {k n : Int} {a b : Str} {l : List Tr} {p : Path} {w : Wk} (hk : k = 62 ∨ k = 72) (hs : SOK U x.S) (ho : HsOK U x.Out) (h8 : ∀ t ∈ l, t.kind = 8) (ht : TyW (.node k n a b l)) (hu : InU U (.node k n a b l)) (hp : p.length ≤ 10000) :
    LenOK w (dataW N x (.node k n a b l) p w).1 (Tr.node k n a b l).cnt ∧ SttOK U x (dataW N x (.node k n a b l) p w).2 (Tr.node k n a b l).cnt := by
  refine ⟨typW_len .., ?_⟩
  have ha : a.length ≤ 128 := ht.len
  have h1 : (116 :: 58 :: a) ∈ U := hu.self _ (by rcases hk with rfl | rfl <;> simp [labK])
  have hl : ∀ t ∈ l, TyW t := by cases ht; assumption
  have h0 : SttOK U x (x.put (116 :: 58 :: a) p []) 1 := (SttOK.refl hs ho 0).put (Nat.le_refl _) h1 (by simp) (by simp; omega) hp .nil
  exact (putKids_ok hp h0 h8 (fun t ht => (hl t ht).len) hu.kids).mono (by have := kinds8_len h8; simp only [Tr.cnt]; omega)
def SigOK (U : List Str) (N : Nat) : Prop := ∀ (s : List Bd) (t : Tr) (p : Path) (w : Wk), SgW t → SOK U s → InU U t → p.length + N ≤ 10000 → LenOK w (sigW N s t p w).1 t.cnt ∧ HsOK U (sigW N s t p w).2
def SpecOK (U : List Str) (N : Nat) : Prop := ∀ (x : Stt) (t : Tr) (p : Path) (w : Wk), SpW t → SOK U x.S → HsOK U x.Out → InU U t → p.length + N ≤ 10000 → LenOK w (specW N x t p w).1 t.cnt ∧ SttOK U x (specW N x t p w).2 t.cnt
theorem foldK_typ_len {N : Nat} {s : List Bd} {p : Path} (l : List Tr) (i : Nat) (w : Wk) : LenOK w (foldK (fun i k w => typW N s k (down p i) w) i l w) (Tr.cnts l) := by
  have := foldK_cost (f := fun i k w => typW N s k (down p i) w) (fun c x => LenOK w x c) l i 0 w (fun t _ j c x h => h.trans (typW_len N _ t _ x)) (.refl _ _)
  simpa using this
theorem spec_fold {U : List Str} {N : Nat} (ih : SpecOK U N) {p : Path} (hp : p.length + 1 + N ≤ 10000) {l : List Tr} (hl : ∀ t ∈ l, SpW t) (hu : InUs U l) (x : Stt) (w : Wk) (i : Nat) (hs : SOK U x.S) (ho : HsOK U x.Out) :
    LenOK w (foldK (fun i k x => specW N x.2 k (down p i) x.1) i l (w, x)).1 (Tr.cnts l) ∧ SttOK U x (foldK (fun i k x => specW N x.2 k (down p i) x.1) i l (w, x)).2 (Tr.cnts l) := by
  have := foldK_cost (f := fun i k x => specW N x.2 k (down p i) x.1) (fun c (y : Wk × Stt) => LenOK w y.1 c ∧ SttOK U x y.2 c) l i 0 (w, x) (fun t ht j c y h => ?_) ⟨.refl _ _, .refl hs ho _⟩
  · simpa using this
  · have := ih y.2 t (down p j) y.1 (hl t ht) h.2.s h.2.o (hu.mem t ht) (by rw [down_len]; omega)
    exact ⟨h.1.trans this.1, h.2.trans this.2⟩
theorem bring_len {U : List Str} {ins : List Hs} (h : HsOK U ins) (s : List Bd) (p : Path) : (bringB s ins p).length ≤ s.length + U.length := by
  have := h.len
  simp [bringB]; omega
theorem SttOK.bring {U : List Str} {x : Stt} {p : Path} {ins : List Hs} (hs : SOK U x.S) (ho : HsOK U x.Out) (hp : p.length ≤ 10000) (hi : HsOK U ins) (o : List Hs) (hoo : HsOK U o) {c : Nat} (hc : 1 ≤ c) : SttOK U x ⟨bringB x.S ins p, o⟩ c := by
  refine SttOK.mono (c := 1) ⟨bringB_ok hs hp hi, hoo, ?_⟩ hc
  have := bring_len hi x.S p
  simp only [Nat.mul_one]
  omega
theorem SttOK.bind {U : List Str} {x : Stt} {p : Path} {ins : List Hs} {lab : Str} (hs : SOK U x.S) (ho : HsOK U x.Out) (hp : p.length ≤ 10000) (h2 : 2 ≤ lab.length) (h3 : lab.length ≤ 200) (hi : HsOK U ins) {c : Nat} (hc : 1 ≤ c) : SttOK U x ⟨bindB x.S lab p ins, x.Out⟩ c := by
  refine SttOK.mono (c := 1) ⟨bindB_ok hs h2 h3 hp hi, ho, ?_⟩ hc
  simp only [Nat.mul_one, bindB, List.length_append, List.length_singleton]
  omega
theorem SgW.pos {t : Tr} (h : SgW t) : 1 ≤ t.cnt := by cases h <;> simp only [Tr.cnt] <;> omega
theorem SpW.pos {t : Tr} (h : SpW t) : 1 ≤ t.cnt := by cases h <;> simp only [Tr.cnt] <;> omega
theorem MdW.pos {t : Tr} (h : MdW t) : 1 ≤ t.cnt := by cases h <;> simp only [Tr.cnt] <;> omega
theorem DcW.pos {t : Tr} (h : DcW t) : 1 ≤ t.cnt := by cases h <;> simp only [Tr.cnt] <;> omega
theorem TyW.pos {t : Tr} (h : TyW t) : 1 ≤ t.cnt := by cases h <;> simp only [Tr.cnt] <;> omega
theorem ExW.pos {t : Tr} (h : ExW t) : 1 ≤ t.cnt := by cases h <;> simp only [Tr.cnt] <;> omega
theorem SttOK.put1 {U : List Str} {x : Stt} {lab : Str} {p : Path} {ins : List Hs} {c : Nat} (hs : SOK U x.S) (ho : HsOK U x.Out) (hc : 1 ≤ c) (hu : lab ∈ U) (h2 : 2 ≤ lab.length) (h3 : lab.length ≤ 200) (hp : p.length ≤ 10000) (hi : HsOK U ins) : SttOK U x (x.put lab p ins) c :=
  (SttOK.refl hs ho 0).put (by omega) hu h2 h3 hp hi
theorem sig_step {U : List Str} {N : Nat} (ihg : SigOK U N) (ihp : SpecOK U N) : SigOK U (N + 1) := by
  intro s t p w h hs hu hp
  cases h with
  | name h => simp only [sigW, Tr.kind, if_true, Tr.cnt]; exact ⟨(show LenOK _ _ _ from refer_L ..).mono (by omega), refer_ok hs⟩
  | @wh n a b s' t' h1 h2 =>
    have hk := hu.kids
    obtain ⟨l1, o1⟩ := ihg s s' (down p 0) w h1 hs hk.head (by rw [down_len]; omega)
    simp only [sigW, Tr.kind, Tr.kid, Tr.kids, List.getD_cons_zero, List.getD_cons_succ, Tr.cnt, Tr.cnts]
    exact ⟨(l1.trans (typW_len ..)).mono (by omega), o1⟩
  | body hl =>
    have := spec_fold ihp (p := p) (by omega) hl hu.kids ⟨s, []⟩ w 0 hs .nil
    simp only [sigW, Tr.kind, Tr.kids, Tr.cnt]
    exact ⟨this.1.mono (by omega), this.2.o⟩
theorem spec_step {U : List Str} {N : Nat} (ihg : SigOK U N) : SpecOK U (N + 1) := by
  intro x t p w h hs ho hu hp
  have hp1 : p.length ≤ 10000 := by omega
  cases h with
  | val ha h =>
    simp only [specW, Tr.kind, Tr.kid, Tr.kids, Tr.name, if_true, List.getD_cons_zero, Tr.cnt, Tr.cnts]
    exact ⟨(typW_len ..).mono (by omega), .put1 hs ho (by omega) (hu.self _ (by simp [labK])) (by simp) (by simp; omega) hp1 .nil⟩
  | typ0 ha =>
    simp only [specW, Tr.kind, Tr.kids, Tr.name, Tr.cnt, Tr.cnts]
    exact ⟨(foldK_typ_len (N := N) (s := x.S) (p := p) [] 0 w).mono (by simp [Tr.cnts]), .put1 hs ho (by omega) (hu.self _ (by simp [labK])) (by simp) (by simp; omega) hp1 .nil⟩
  | typ1 ha h =>
    simp only [specW, Tr.kind, Tr.kids, Tr.name, Tr.cnt]
    exact ⟨(foldK_typ_len (N := N) (s := x.S) (p := p) _ 0 w).mono (by omega), .put1 hs ho (by omega) (hu.self _ (by simp [labK])) (by simp) (by simp; omega) hp1 .nil⟩
  | data h8 h =>
    simp only [specW, Tr.kind]
    exact dataW_ok (.inl rfl) hs ho h8 h hu hp1
  | str ha h =>
    obtain ⟨l1, o1⟩ := ihg x.S _ (down p 0) w h hs hu.kids.head (by rw [down_len]; omega)
    simp only [specW, Tr.kind, Tr.kid, Tr.kids, Tr.name, List.getD_cons_zero, Tr.cnt, Tr.cnts]
    exact ⟨l1.mono (by omega), .put1 hs ho (by omega) (hu.self _ (by simp [labK])) (by simp) (by simp; omega) hp1 o1⟩
  | inc h =>
    obtain ⟨l1, o1⟩ := ihg x.S _ (down p 0) w h hs hu.kids.head (by rw [down_len]; omega)
    simp only [specW, Tr.kind, Tr.kid, Tr.kids, List.getD_cons_zero, Tr.cnt, Tr.cnts]
    exact ⟨l1.mono (by omega), .bring hs ho hp1 o1 _ (putAll_ok hp1 ho o1) (by omega)⟩
  | share =>
    simp only [specW, Tr.kind]
    exact ⟨.refl _ _, .refl hs ho _⟩
theorem sigs_ok (U : List Str) : ∀ N, SigOK U N ∧ SpecOK U N
  | 0 => ⟨fun s t p w _ _ _ _ => by simp only [sigW]; exact ⟨.refl _ _, .nil⟩, fun x t p w _ hs ho _ _ => by simp only [specW]; exact ⟨.refl _ _, .refl hs ho _⟩⟩
  | N + 1 => have ih := sigs_ok U N; ⟨sig_step ih.1 ih.2, spec_step ih.1⟩
def LenX (U : List Str) (w w' : Wk) (c : Nat) : Prop := w'.L.length ≤ w.L.length + c ∧ w'.X.length ≤ w.X.length + U.length * c
theorem LenOK.x {U : List Str} {w w' : Wk} {c : Nat} (h : LenOK w w' c) : LenX U w w' c := ⟨h.1, by rw [h.2]; omega⟩
theorem LenX.refl (U : List Str) (w : Wk) (c : Nat) : LenX U w w c := ⟨by omega, by omega⟩
theorem LenX.trans {U : List Str} {w w' w'' : Wk} {c d : Nat} (h : LenX U w w' c) (k : LenX U w' w'' d) : LenX U w w'' (c + d) :=
  ⟨by have := h.1; have := k.1; omega, by have := h.2; have := k.2; have e : U.length * (c + d) = U.length * c + U.length * d := Nat.mul_add _ _ _; omega⟩
theorem LenX.mono {U : List Str} {w w' : Wk} {c d : Nat} (h : LenX U w w' c) (k : c ≤ d) : LenX U w w' d := ⟨by have := h.1; omega, by have := h.2; have := Nat.mul_le_mul_left U.length k; omega⟩
theorem ends_len (out : List Hs) (p : Path) : (endsL out p).length = out.length := by simp [endsL, sortS]
theorem LenX.ends {U : List Str} {w w' : Wk} {c d : Nat} {out : List Hs} {p : Path} (h : LenX U w w' c) (ho : HsOK U out) (hd : c + 1 ≤ d) : LenX U w { w' with X := w'.X ++ endsL out p } d := by
  refine LenX.mono (c := c + 1) ⟨by have := h.1; simp only; omega, ?_⟩ hd
  have := h.2
  have := ho.len
  have e : U.length * (c + 1) = U.length * c + U.length := Nat.mul_succ _ _
  simp only [List.length_append, ends_len]
  omega
def ModOK (U : List Str) (N : Nat) : Prop := ∀ (s : List Bd) (t : Tr) (p : Path) (w : Wk), MdW t → SOK U s → InU U t → p.length + N ≤ 10000 → LenX U w (modW N s t p w).1 t.cnt ∧ HsOK U (modW N s t p w).2
def DeclOK (U : List Str) (N : Nat) : Prop := ∀ (x : Stt) (t : Tr) (p : Path) (w : Wk), DcW t → SOK U x.S → HsOK U x.Out → InU U t → p.length + N ≤ 10000 → LenX U w (declW N x t p w).1 t.cnt ∧ SttOK U x (declW N x t p w).2 t.cnt
theorem decl_fold {U : List Str} {N : Nat} (ih : DeclOK U N) {p : Path} (hp : p.length + 1 + N ≤ 10000) {l : List Tr} (hl : ∀ t ∈ l, DcW t) (hu : InUs U l) (x : Stt) (w : Wk) (i : Nat) (hs : SOK U x.S) (ho : HsOK U x.Out) :
    LenX U w (foldK (fun i k x => declW N x.2 k (down p i) x.1) i l (w, x)).1 (Tr.cnts l) ∧ SttOK U x (foldK (fun i k x => declW N x.2 k (down p i) x.1) i l (w, x)).2 (Tr.cnts l) := by
  have := foldK_cost (f := fun i k x => declW N x.2 k (down p i) x.1) (fun c (y : Wk × Stt) => LenX U w y.1 c ∧ SttOK U x y.2 c) l i 0 (w, x) (fun t ht j c y h => ?_) ⟨.refl _ _ _, .refl hs ho _⟩
  · simpa using this
  · have := ih y.2 t (down p j) y.1 (hl t ht) h.2.s h.2.o (hu.mem t ht) (by rw [down_len]; omega)
    exact ⟨h.1.trans this.1, h.2.trans this.2⟩
theorem mod_step {U : List Str} {N : Nat} (ihm : ModOK U N) (ihd : DeclOK U N) : ModOK U (N + 1) := by
  intro s t p w h hs hu hp
  cases h with
  | path h => simp only [modW, Tr.kind, if_true, Tr.cnt]; exact ⟨((show LenOK _ _ _ from refer_L ..).mono (by omega)).x, refer_ok hs⟩
  | @app n a b m h h1 =>
    have hk := hu.kids
    have l0 : LenOK w (refer w s p [102] a).1 1 := refer_L ..
    obtain ⟨l1, o1⟩ := ihm s m (down p 0) (refer w s p [102] a).1 h1 hs hk.head (by rw [down_len]; omega)
    simp only [modW, Tr.kind, Tr.kid, Tr.kids, Tr.name, List.getD_cons_zero, Tr.cnt, Tr.cnts]
    exact ⟨(l0.x.trans l1).mono (by omega), refer_ok hs⟩
  | @sealM n a b m s' h1 h2 =>
    have hk := hu.kids
    obtain ⟨l1, o1⟩ := ihm s m (down p 0) w h1 hs hk.head (by rw [down_len]; omega)
    obtain ⟨l2, o2⟩ := (sigs_ok U N).1 s s' (down p 1) (modW N s m (down p 0) w).1 h2 hs hk.tail.head (by rw [down_len]; omega)
    simp only [modW, Tr.kind, Tr.kid, Tr.kids, List.getD_cons_zero, List.getD_cons_succ, Tr.cnt, Tr.cnts]
    exact ⟨(l1.trans l2.x).mono (by omega), o2⟩
  | body hl =>
    have := decl_fold ihd (p := p) (by omega) hl hu.kids ⟨s, []⟩ w 0 hs .nil
    simp only [modW, Tr.kind, Tr.kids, Tr.cnt]
    exact ⟨this.1.ends this.2.o (by omega), this.2.o⟩
theorem decl_step {U : List Str} {N : Nat} (ihm : ModOK U N) : DeclOK U (N + 1) := by
  intro x t p w h hs ho hu hp
  have hp1 : p.length ≤ 10000 := by omega
  have ihg := (sigs_ok U N).1
  cases h with
  | val1 ha h =>
    simp only [declW, Tr.kind, Tr.kid, Tr.kids, Tr.name, if_true, List.getD_cons_zero, Tr.cnt, Tr.cnts, List.length_singleton, Nat.sub_self]
    exact ⟨((exprW_len ..).mono (by omega)).x, .put1 hs ho (by omega) (hu.self _ (by simp [labK])) (by simp) (by simp; omega) hp1 .nil⟩
  | val2 ha h1 h =>
    simp only [declW, Tr.kind, Tr.kid, Tr.kids, Tr.name, if_true, List.getD_cons_zero, List.getD_cons_succ, Tr.cnt, Tr.cnts, List.length_cons, List.length_nil, Nat.add_sub_cancel]
    exact ⟨(((typW_len ..).trans (exprW_len ..)).mono (by omega)).x, .put1 hs ho (by omega) (hu.self _ (by simp [labK])) (by simp) (by simp; omega) hp1 .nil⟩
  | typ ha h =>
    simp only [declW, Tr.kind, Tr.kid, Tr.kids, Tr.name, List.getD_cons_zero, Tr.cnt, Tr.cnts]
    exact ⟨((typW_len ..).mono (by omega)).x, .put1 hs ho (by omega) (hu.self _ (by simp [labK])) (by simp) (by simp; omega) hp1 .nil⟩
  | data h8 h =>
    have := dataW_ok (N := N + 1) (w := w) (.inr rfl) hs ho h8 h hu hp1
    simp only [declW, Tr.kind]
    exact ⟨this.1.x, this.2⟩
  | str ha h =>
    obtain ⟨l1, o1⟩ := ihm x.S _ (down p 0) w h hs hu.kids.head (by rw [down_len]; omega)
    simp only [declW, Tr.kind, Tr.kid, Tr.kids, Tr.name, List.getD_cons_zero, Tr.cnt, Tr.cnts]
    exact ⟨l1.mono (by omega), .put1 hs ho (by omega) (hu.self _ (by simp [labK])) (by simp) (by simp; omega) hp1 o1⟩
  | sg ha h =>
    obtain ⟨l1, o1⟩ := ihg x.S _ (down p 0) w h hs hu.kids.head (by rw [down_len]; omega)
    simp only [declW, Tr.kind, Tr.kid, Tr.kids, Tr.name, List.getD_cons_zero, Tr.cnt, Tr.cnts]
    exact ⟨(l1.mono (by omega)).x, .bind hs ho hp1 (by simp) (by simp; omega) o1 (by omega)⟩
  | @ftor n a b s m ha hb h1 h2 =>
    obtain ⟨l1, o1⟩ := ihg x.S s (down p 0) w h1 hs hu.kids.head (by rw [down_len]; omega)
    obtain ⟨l2, o2⟩ := ihm (bindB x.S (109 :: 58 :: b) p (sigW N x.S s (down p 0) w).2) m (down p 1) (sigW N x.S s (down p 0) w).1 h2 (bindB_ok hs (by simp) (by simp; omega) hp1 o1) hu.kids.tail.head (by rw [down_len]; omega)
    simp only [declW, Tr.kind, Tr.kid, Tr.kids, Tr.name, Tr.mark, List.getD_cons_zero, List.getD_cons_succ, Tr.cnt, Tr.cnts]
    exact ⟨(l1.x.trans l2).mono (by omega), .bind hs ho hp1 (by simp) (by simp; omega) o2 (by omega)⟩
  | opn h =>
    have o1 := refer_ok (w := w) (p := p) (sp := [109]) (long := ‹Str›) hs
    simp only [declW, Tr.kind, Tr.name, Tr.cnt, Tr.cnts]
    exact ⟨((show LenOK _ _ _ from refer_L ..).mono (by omega)).x, .bring hs ho hp1 (refer_ok hs) _ ho (by omega)⟩
  | inc h =>
    simp only [declW, Tr.kind, Tr.name, Tr.cnt, Tr.cnts]
    exact ⟨((show LenOK _ _ _ from refer_L ..).mono (by omega)).x, .bring hs ho hp1 (refer_ok hs) _ (putAll_ok hp1 ho (refer_ok hs)) (by omega)⟩
theorem mods_ok (U : List Str) : ∀ N, ModOK U N ∧ DeclOK U N
  | 0 => ⟨fun s t p w _ _ _ _ => by simp only [modW]; exact ⟨.refl _ _ _, .nil⟩, fun x t p w _ hs ho _ _ => by simp only [declW]; exact ⟨.refl _ _ _, .refl hs ho _⟩⟩
  | N + 1 => have ih := mods_ok U N; ⟨mod_step ih.1 ih.2, decl_step ih.1⟩
end Go.Av
