/-
  Go read by value: lemmas (part 28): N0, N1, N2, N3.
-/
import Derived.Test.YtdeocbficanfaaaGreatDoorX20
import Derived.Test.YtdeocbficanfaaaGreatDoorX21
set_option linter.unusedVariables false
set_option linter.unusedSimpArgs false
set_option linter.unusedSectionVars false
namespace Go.Av
theorem getA_none : ∀ {ks : List Str} {vs : List AV}, ks.length = vs.length → ∀ {x : Str}, getA ks vs x = none ↔ x ∉ ks
  | [], [], _, x => by simp [getA]
  | k :: ks, v :: vs, h, x => by
    simp only [getA]
    by_cases hk : k = x
    · simp [hk]
    · simp only [hk, if_false, List.mem_cons, not_or]
      rw [getA_none (by simpa using h)]
      exact ⟨fun q => ⟨fun e => hk e.symm, q⟩, fun q => q.2⟩
  | [], _ :: _, h, _ => by simp at h
  | _ :: _, [], h, _ => by simp at h
theorem getA_some {ks : List Str} {vs : List AV} (h : ks.length = vs.length) {x : Str} (hx : x ∈ ks) : ∃ v, getA ks vs x = some v := by
  cases e : getA ks vs x with
  | none => exact absurd hx ((getA_none h).1 e)
  | some v => exact ⟨v, rfl⟩
theorem getA_mem {ks : List Str} {vs : List AV} (h : ks.length = vs.length) {x : Str} {v : AV} (e : getA ks vs x = some v) : x ∈ ks := by
  by_cases hx : x ∈ ks
  · exact hx
  · rw [(getA_none h).2 hx] at e; cases e
theorem getA_at : ∀ {ks : List Str} {vs : List AV}, ks.length = vs.length → ks.Nodup → ∀ j (hk : j < ks.length) (hv : j < vs.length), getA ks vs ks[j] = some vs[j]
  | k :: ks, v :: vs, h, hn, 0, _, _ => by simp [getA]
  | k :: ks, v :: vs, h, hn, j + 1, hk, hv => by
    simp only [List.nodup_cons] at hn
    simp only [List.getElem_cons_succ, getA]
    have : k ≠ ks[j]'(by simpa using hk) := fun e => hn.1 (e ▸ List.getElem_mem _)
    rw [if_neg this]
    exact getA_at (by simpa using h) hn.2 j _ _
theorem setA_len : ∀ {ks : List Str} {vs : List AV}, ks.length = vs.length → ∀ (x : Str) (v : AV), (setA ks vs x v).1.length = (setA ks vs x v).2.length
  | [], [], _, x, v => rfl
  | k :: ks, w :: vs, h, x, v => by
    simp only [setA]
    split
    · simpa using h
    · simpa using setA_len (by simpa using h) x v
  | [], _ :: _, h, _, _ => by simp at h
  | _ :: _, [], h, _, _ => by simp at h
theorem getA_setA : ∀ {ks : List Str} {vs : List AV}, ks.length = vs.length → ∀ (x : Str) (v : AV) (y : Str), getA (setA ks vs x v).1 (setA ks vs x v).2 y = if x = y then some v else getA ks vs y
  | [], [], _, x, v, y => rfl
  | k :: ks, w :: vs, h, x, v, y => by
    simp only [setA]
    by_cases hk : k = x
    · simp only [hk, if_true, getA]
      by_cases hx : x = y
      · simp [hx]
      · simp [hx]
    · simp only [hk, if_false, getA]
      rw [getA_setA (by simpa using h)]
      by_cases hx : k = y
      · subst hx
        have : ¬ x = k := fun e => hk e.symm
        simp [this]
      · simp [hx]
  | [], _ :: _, h, _, _, _ => by simp at h
  | _ :: _, [], h, _, _, _ => by simp at h
theorem setA_mem : ∀ {ks : List Str} {vs : List AV}, ks.length = vs.length → ∀ (x : Str) (v : AV) (y : Str), y ∈ (setA ks vs x v).1 ↔ y = x ∨ y ∈ ks
  | [], [], _, x, v, y => by simp [setA]
  | k :: ks, w :: vs, h, x, v, y => by
    simp only [setA]
    by_cases hk : k = x
    · simp [hk]
    · simp only [hk, if_false, List.mem_cons]
      rw [setA_mem (by simpa using h)]
      exact ⟨fun q => by rcases q with q | q | q <;> simp [q], fun q => by rcases q with q | q | q <;> simp [q]⟩
  | [], _ :: _, h, _, _, _ => by simp at h
  | _ :: _, [], h, _, _, _ => by simp at h
theorem setA_nodup : ∀ {ks : List Str} {vs : List AV}, ks.length = vs.length → ∀ (x : Str) (v : AV), ks.Nodup → (setA ks vs x v).1.Nodup
  | [], [], _, x, v, _ => by simp [setA]
  | k :: ks, w :: vs, h, x, v, hn => by
    simp only [setA]
    by_cases hk : k = x
    · simpa [hk] using hn
    · simp only [hk, if_false, List.nodup_cons] at hn ⊢
      refine ⟨fun q => ?_, setA_nodup (by simpa using h) x v hn.2⟩
      rcases (setA_mem (by simpa using h) x v k).1 q with q | q
      · exact hk q
      · exact hn.1 q
  | [], _ :: _, h, _, _, _ => by simp at h
  | _ :: _, [], h, _, _, _ => by simp at h
theorem dataL_of : ∀ {vs : List AV}, (∀ v ∈ vs, Data v) → DataL vs
  | [], _ => fun _ _ => rfl
  | v :: vs, h => fun n m => by
    have := dataL_of fun v hv => h v (.tail _ hv)
    simp only [clnL, h v (.head _) n m, this n m]
theorem data_all {ks : List Str} {vs : List AV} (h : ks.length = vs.length) (hn : ks.Nodup) (hv : ∀ x v, getA ks vs x = some v → Data v) : DataL vs := dataL_of fun v hm => by
  obtain ⟨j, hj, rfl⟩ := List.mem_iff_getElem.1 hm
  exact hv _ _ (getA_at h hn j (h ▸ hj) hj)
inductive HR : AV → List Hs → Prop
  | nil : HR .mnil []
  | map {ks : List Str} {vs : List AV} {l : List Hs} (hl : ks.length = vs.length) (hn : ks.Nodup) (hk : ∀ x, x ∈ ks ↔ x ∈ l.map Hs.label)
      (hv : ∀ x v h, getA ks vs x = some v → findL (isH x) l = some h → HR v h.ins) : HR (.mapv ks vs) l
theorem findL_mem {l : List Hs} {x : Str} : x ∈ l.map Hs.label → ∃ h, findL (isH x) l = some h ∧ h.label = x := fun hx => by
  cases e : findL (isH x) l with
  | none =>
    obtain ⟨h, hh, rfl⟩ := List.mem_map.1 hx
    have := findL_none.1 e h hh
    simp [isH] at this
  | some h => exact ⟨h, rfl, by have := (findL_some e).2; simpa [isH] using this⟩
theorem HR.data {v : AV} {l : List Hs} (h : HR v l) : Data v := by
  induction h with
  | nil => exact fun _ _ => rfl
  | map hl hn hk hv ih =>
    have := data_all hl hn fun x v e => by
      obtain ⟨h, hh, _⟩ := findL_mem ((hk x).1 (getA_mem hl e))
      exact ih x v h e hh
    exact fun n m => by simp only [cln, this n m]
structure Sc where
  label : Str
  site : Path
  br : Bool
  has : AV
def scAV : List Sc → AV
  | [] => .nilp
  | c :: l => .ptr [.str c.label, .sl 1 (ints c.site) .shut, .bool c.br, c.has, scAV l]
def ScOK (sc : List Sc) : Prop := ∀ c ∈ sc, Data c.has
theorem scAV_data : ∀ {sc : List Sc}, ScOK sc → Data (scAV sc)
  | [], _ => fun _ _ => rfl
  | c :: l, h => fun n m => by
    have h1 := scAV_data (sc := l) fun c hc => h c (.tail _ hc)
    have h2 := h c (.head _)
    simp only [scAV, cln, clnL, ints_cln, clnOwn, h1 n m, h2 n m]
@[simp] theorem scAV_cells (sc : List Sc) : cellsA (scAV sc) = some [scAV sc] := by cases sc <;> rfl
@[simp] theorem scAV_okc (sc : List Sc) : okCell (scAV sc) = true := by cases sc <;> rfl
theorem HR.cells {v : AV} {l : List Hs} (h : HR v l) : cellsA v = some [v] := by cases h <;> rfl
theorem HR.okc {v : AV} {l : List Hs} (h : HR v l) : okCell v = true := by cases h <;> rfl
def isSc (x : Str) : Sc → Bool := fun c => c.label == x
structure BR (c : Sc) (b : Bd) : Prop where
  site : c.site = b.site
  br : c.br = b.br
  has : HR c.has b.ins
structure SR (sc : List Sc) (s : List Bd) : Prop where
  ok : ScOK sc
  at' : ∀ x, (sc.find? (isSc x) = none ∧ findL (isBd x) s = none) ∨ ∃ c b, sc.find? (isSc x) = some c ∧ findL (isBd x) s = some b ∧ BR c b
theorem SR.nil : SR [] [] := ⟨by simp [ScOK], fun x => .inl ⟨rfl, rfl⟩⟩
theorem SR.bind {sc : List Sc} {s : List Bd} (h : SR sc s) (x : Str) (p : Path) {v : AV} {ins : List Hs} (hv : HR v ins) : SR (⟨x, p, false, v⟩ :: sc) (bindB s x p ins) := by
  refine ⟨fun c hc => ?_, fun y => ?_⟩
  · rcases List.mem_cons.1 hc with rfl | hc
    · exact hv.data
    · exact h.ok c hc
  · simp only [List.find?_cons, bindB, findL_append, findL_one, isSc, isBd]
    by_cases hx : x = y
    · subst hx
      exact .inr ⟨_, _, by simp; rfl, by simp; rfl, ⟨rfl, rfl, hv⟩⟩
    · have : (x == y) = false := by simpa using hx
      simp only [this, Bool.false_eq_true, if_false]
      exact h.at' y
structure GvL (ks : List Str) (vs : List AV) (o : List Hs) : Prop where
  hl : ks.length = vs.length
  hn : ks.Nodup
  hk : ∀ x, x ∈ ks ↔ x ∈ o.map Hs.label
  hv : ∀ x v h, getA ks vs x = some v → findL (isH x) o = some h → Data v ∧ ∃ hv nx, v = .ptr [.str x, .sl 1 (ints h.site) .shut, .bool h.br, hv, nx]
structure GvR (ks : List Str) (vs : List AV) (o : List Hs) : Prop where
  hl : ks.length = vs.length
  hn : ks.Nodup
  hk : ∀ x, x ∈ ks ↔ x ∈ o.map Hs.label
  hv : ∀ x v h, getA ks vs x = some v → findL (isH x) o = some h → Data v ∧ ∃ hv nx, v = .ptr [.str x, .sl 1 (ints h.site) .shut, .bool h.br, hv, nx] ∧ HR hv h.ins
theorem GvR.gvl {ks : List Str} {vs : List AV} {o : List Hs} (h : GvR ks vs o) : GvL ks vs o :=
  ⟨h.hl, h.hn, h.hk, fun x v q a b => let ⟨d, hv, nx, e, _⟩ := h.hv x v q a b; ⟨d, hv, nx, e⟩⟩
theorem GvL.data {ks : List Str} {vs : List AV} {o : List Hs} (h : GvL ks vs o) : DataL vs := data_all h.hl h.hn fun x v e => by
  obtain ⟨q, hq, _⟩ := findL_mem ((h.hk x).1 (getA_mem h.hl e))
  exact (h.hv x v q e hq).1
theorem GvR.nil : GvR [] [] [] := ⟨rfl, by simp, by simp, by simp [getA]⟩
theorem findL_put (l : List Hs) (k : Hs) (x : Str) : findL (isH x) (put l k) = if k.label = x then some k else findL (isH x) l := by
  unfold put
  rw [findL_append, findL_one]
  by_cases hx : k.label = x
  · simp [isH, hx]
  · have h1 : isH x k = false := by simpa [isH] using hx
    rw [h1, if_neg hx]
    simp only [Bool.false_eq_true, if_false]
    exact findL_filter _ _ (fun h hh => by simp only [isH, beq_iff_eq] at hh; subst hh; simpa using fun e => hx e.symm) l
theorem put_mem {l : List Hs} {k : Hs} {x : Str} : x ∈ (put l k).map Hs.label ↔ x = k.label ∨ x ∈ l.map Hs.label := by
  unfold put
  simp only [List.map_append, List.mem_append, List.map_cons, List.map_nil, List.mem_singleton, List.mem_map, List.mem_filter]
  constructor
  · rintro (⟨h, ⟨hh, _⟩, rfl⟩ | q)
    · exact .inr ⟨h, hh, rfl⟩
    · exact .inl q
  · rintro (q | ⟨h, hh, rfl⟩)
    · exact .inr q
    · by_cases e : h.label = k.label
      · exact .inr e
      · exact .inl ⟨h, ⟨hh, by simpa using e⟩, rfl⟩
theorem GvR.put {ks : List Str} {vs : List AV} {o : List Hs} (h : GvR ks vs o) {k : Hs} {v hv nx : AV} (hd : Data v) (e : v = .ptr [.str k.label, .sl 1 (ints k.site) .shut, .bool k.br, hv, nx]) (hr : HR hv k.ins) :
    GvR (setA ks vs k.label v).1 (setA ks vs k.label v).2 (Av.put o k) := by
  refine ⟨setA_len h.hl _ _, setA_nodup h.hl _ _ h.hn, fun x => ?_, fun x w q hw hq => ?_⟩
  · rw [setA_mem h.hl, put_mem, h.hk]
  · rw [getA_setA h.hl] at hw
    rw [findL_put] at hq
    by_cases hx : k.label = x
    · subst hx
      rw [if_pos rfl] at hw hq
      cases hw; cases hq
      exact ⟨hd, hv, nx, e, hr⟩
    · rw [if_neg hx] at hw hq
      exact h.hv x w q hw hq
theorem sortS_same {a b : List Str} (ha : a.Nodup) (hb : b.Nodup) (h : ∀ x, x ∈ a ↔ x ∈ b) : sortS a = sortS b := by
  have hp : a.Perm b := (List.perm_ext_iff_of_nodup ha hb).2 h
  have h1 := sortS_lt ha
  have h2 := sortS_lt hb
  exact List.Perm.eq_of_pairwise (le := (· < ·)) (fun x y _ _ p q => absurd (List.lt_trans p q) (List.lt_irrefl _)) h1 h2 ((sortS_perm a).trans (hp.trans (sortS_perm b).symm))
theorem GvL.sort {ks : List Str} {vs : List AV} {o : List Hs} (h : GvL ks vs o) (ho : (o.map Hs.label).Nodup) : sortS ks = sortS (o.map Hs.label) := sortS_same h.hn ho h.hk
def getV : AV → Str → Option AV
  | .mapv ks vs, x => getA ks vs x
  | _, _ => none
theorem HR.look {v : AV} {l : List Hs} (h : HR v l) (x : Str) : (getV v x = none ∧ findL (isH x) l = none) ∨ ∃ w k, getV v x = some w ∧ findL (isH x) l = some k ∧ HR w k.ins := by
  cases h with
  | nil => exact .inl ⟨rfl, rfl⟩
  | @map ks vs l hl hn hk hv =>
    cases e : getA ks vs x with
    | none =>
      refine .inl ⟨e, findL_none.2 fun k hk' => ?_⟩
      have := (getA_none hl).1 e
      rw [hk] at this
      simp only [isH, beq_eq_false_iff_ne, ne_eq]
      rintro rfl
      exact this (List.mem_map_of_mem hk')
    | some w =>
      obtain ⟨k, h1, h2⟩ := findL_mem ((hk x).1 (getA_mem hl e))
      exact .inr ⟨w, k, e, h1, hv _ _ _ e h1⟩
theorem bring_find (s : List Bd) (p : Path) (x : Str) (l : List Hs) : findL (isBd x) (bringB s l p) = match findL (isH x) l with | some h => some ⟨x, p, true, h.ins⟩ | none => findL (isBd x) s := by
  unfold bringB
  rw [findL_append]
  have : findL (isBd x) (l.map fun h => (⟨h.label, p, true, h.ins⟩ : Bd)) = (findL (isH x) l).map fun h => ⟨h.label, p, true, h.ins⟩ := by
    induction l with
    | nil => rfl
    | cons a l ih =>
      simp only [List.map_cons, findL, ih, isBd, isH]
      cases findL (isH x) l with
      | none => simp only [Option.map_none]; by_cases hx : a.label = x <;> simp [hx]
      | some y => rfl
  rw [this]
  cases e : findL (isH x) l with
  | none => rfl
  | some h => have := (findL_some e).2; simp only [isH, beq_iff_eq] at this; subst this; rfl
theorem putAll_find (p : Path) (x : Str) : ∀ (l o : List Hs), findL (isH x) (putAll o l p) = match findL (isH x) l with | some h => some (giveH p h) | none => findL (isH x) o
  | [], o => rfl
  | h :: l, o => by
    simp only [putAll, putAll_find p x l, findL]
    cases e : findL (isH x) l with
    | some y => rfl
    | none =>
      simp only [findL_put, isH]
      have : (giveH p h).label = h.label := rfl
      rw [this]
      by_cases hx : h.label = x
      · simp [hx]
      · simp [hx]
theorem putAll_mem (p : Path) (x : Str) : ∀ (l o : List Hs), x ∈ (putAll o l p).map Hs.label ↔ x ∈ l.map Hs.label ∨ x ∈ o.map Hs.label
  | [], o => by simp [putAll]
  | h :: l, o => by
    simp only [putAll, putAll_mem p x l, put_mem, List.map_cons, List.mem_cons]
    have : (giveH p h).label = h.label := rfl
    rw [this]
    exact ⟨fun q => by rcases q with q | q | q <;> simp [q], fun q => by rcases q with (q | q) | q <;> simp [q]⟩
structure IncR (val : Str → AV) (p : Path) (sc : List Sc) (ks : List Str) (vs : List AV) (S : List Str) (sc' : List Sc) (ks' : List Str) (vs' : List AV) : Prop where
  ok : ScOK sc'
  find : ∀ x, sc'.find? (isSc x) = if x ∈ S then some ⟨x, p, true, val x⟩ else sc.find? (isSc x)
  hl : ks'.length = vs'.length
  hn : ks'.Nodup
  mem : ∀ x, x ∈ ks' ↔ x ∈ S ∨ x ∈ ks
  get : ∀ x v, getA ks' vs' x = some v → if x ∈ S then Data v ∧ ∃ nx, v = .ptr [.str x, .sl 1 (ints p) .shut, .bool true, val x, nx] else getA ks vs x = some v
theorem IncR.refl {val : Str → AV} {p : Path} {sc : List Sc} {ks : List Str} {vs : List AV} (ok : ScOK sc) (hl : ks.length = vs.length) (hn : ks.Nodup) : IncR val p sc ks vs [] sc ks vs :=
  ⟨ok, fun x => by simp, hl, hn, fun x => by simp, fun x v h => by simpa using h⟩
theorem IncR.step {val : Str → AV} {p : Path} {sc sc' : List Sc} {ks ks' S : List Str} {vs vs' : List AV} (h : IncR val p sc ks vs S sc' ks' vs') {k : Str} (hd : Data (val k)) :
    IncR val p sc ks vs (S ++ [k]) (⟨k, p, true, val k⟩ :: sc') (setA ks' vs' k (scAV (⟨k, p, true, val k⟩ :: sc'))).1 (setA ks' vs' k (scAV (⟨k, p, true, val k⟩ :: sc'))).2 := by
  have hok : ScOK (⟨k, p, true, val k⟩ :: sc') := fun c hc => by
    rcases List.mem_cons.1 hc with rfl | hc
    · exact hd
    · exact h.ok c hc
  refine ⟨hok, fun x => ?_, setA_len h.hl _ _, setA_nodup h.hl _ _ h.hn, fun x => ?_, fun x v hv => ?_⟩
  · rw [List.find?_cons, h.find]
    simp only [isSc, List.mem_append, List.mem_singleton]
    by_cases hx : k = x
    · subst hx; simp
    · have : (k == x) = false := by simpa using hx
      have h2 : ¬ x = k := fun e => hx e.symm
      simp [this, h2]
  · rw [setA_mem h.hl, h.mem]
    simp only [List.mem_append, List.mem_singleton]
    exact ⟨fun q => by rcases q with q | q | q <;> simp [q], fun q => by rcases q with (q | q) | q <;> simp [q]⟩
  · rw [getA_setA h.hl] at hv
    simp only [List.mem_append, List.mem_singleton]
    by_cases hx : k = x
    · subst hx
      rw [if_pos rfl] at hv
      cases hv
      rw [if_pos (.inr rfl)]
      exact ⟨scAV_data hok, _, rfl⟩
    · rw [if_neg hx] at hv
      have h2 : ¬ x = k := fun e => hx e.symm
      simpa [h2] using h.get x v hv
theorem IncR.sr {val : Str → AV} {p : Path} {sc sc' : List Sc} {ks ks' S : List Str} {vs vs' : List AV} {s : List Bd} {l : List Hs} (h : IncR val p sc ks vs S sc' ks' vs') (hs : SR sc s) (hS : ∀ x, x ∈ S ↔ x ∈ l.map Hs.label)
    (hv : ∀ x k, findL (isH x) l = some k → HR (val x) k.ins) : SR sc' (bringB s l p) := by
  refine ⟨h.ok, fun x => ?_⟩
  rw [h.find, bring_find]
  by_cases hx : x ∈ S
  · obtain ⟨k, hk, _⟩ := findL_mem ((hS x).1 hx)
    rw [if_pos hx, hk]
    exact .inr ⟨_, _, rfl, rfl, ⟨rfl, rfl, hv x k hk⟩⟩
  · rw [if_neg hx]
    have : findL (isH x) l = none := findL_none.2 fun k hk => by
      simp only [isH, beq_eq_false_iff_ne, ne_eq]
      rintro rfl
      exact hx ((hS _).2 (List.mem_map_of_mem hk))
    rw [this]
    exact hs.at' x
theorem IncR.gv {val : Str → AV} {p : Path} {sc sc' : List Sc} {ks ks' S : List Str} {vs vs' : List AV} {o l : List Hs} (h : IncR val p sc ks vs S sc' ks' vs') (hg : GvR ks vs o) (hS : ∀ x, x ∈ S ↔ x ∈ l.map Hs.label)
    (hv : ∀ x k, findL (isH x) l = some k → HR (val x) k.ins) : GvR ks' vs' (putAll o l p) := by
  refine ⟨h.hl, h.hn, fun x => by rw [h.mem, putAll_mem, hS, hg.hk], fun x v k hx hk => ?_⟩
  have hv2 := h.get x v hx
  rw [putAll_find] at hk
  by_cases hm : x ∈ S
  · obtain ⟨q, hq, _⟩ := findL_mem ((hS x).1 hm)
    rw [hq] at hk
    cases hk
    rw [if_pos hm] at hv2
    obtain ⟨hd, nx, e⟩ := hv2
    exact ⟨hd, _, nx, e, hv x q hq⟩
  · rw [if_neg hm] at hv2
    have : findL (isH x) l = none := findL_none.2 fun k hk2 => by
      simp only [isH, beq_eq_false_iff_ne, ne_eq]
      rintro rfl
      exact hm ((hS _).2 (List.mem_map_of_mem hk2))
    rw [this] at hk
    exact hg.hv x v k hv2 hk
theorem seenL_find (x : Str) : ∀ (s : List Bd) (l : List Hs), findL (isH x) (seenL s l) = match findL (isBd x) s with | some b => some (seenH b) | none => findL (isH x) l
  | [], l => rfl
  | b :: s, l => by
    simp only [seenL, seenL_find x s, findL]
    cases e : findL (isBd x) s with
    | some y => rfl
    | none =>
      simp only [findL_put, isBd]
      have : (seenH b).label = b.label := rfl
      rw [this]
      by_cases hx : b.label = x
      · simp [hx]
      · simp [hx]
theorem findL_iff {l : List Hs} {x : Str} : x ∈ l.map Hs.label ↔ ∃ h, findL (isH x) l = some h := by
  refine ⟨fun h => let ⟨k, a, _⟩ := findL_mem h; ⟨k, a⟩, fun ⟨h, e⟩ => ?_⟩
  have := findL_some e
  exact List.mem_map.2 ⟨h, this.1, by simpa [isH] using this.2⟩
structure SeenR (sc : List Sc) (pre : List Sc) (ks : List Str) (vs : List AV) : Prop where
  hl : ks.length = vs.length
  hn : ks.Nodup
  hk : ∀ x, x ∈ ks ↔ ∃ c, pre.find? (isSc x) = some c
  hv : ∀ x v, getA ks vs x = some v → Data v ∧ ∃ c nx, pre.find? (isSc x) = some c ∧ v = .ptr [.str x, .sl 1 (ints c.site) .shut, .bool c.br, c.has, nx]
theorem SeenR.nil (sc : List Sc) : SeenR sc [] [] [] := ⟨rfl, by simp, by simp, by simp [getA]⟩
theorem SeenR.old {sc pre : List Sc} {ks : List Str} {vs : List AV} (h : SeenR sc pre ks vs) {c : Sc} (hc : c.label ∈ ks) : SeenR sc (pre ++ [c]) ks vs := by
  refine ⟨h.hl, h.hn, fun x => ?_, fun x v hx => ?_⟩
  · rw [h.hk, List.find?_append]
    cases e : pre.find? (isSc x) with
    | some y => simp
    | none =>
      simp only [Option.none_or, List.find?_cons, List.find?_nil, isSc]
      by_cases hx : c.label = x
      · subst hx
        obtain ⟨q, hq⟩ := (h.hk _).1 hc
        rw [hq] at e; cases e
      · have : (c.label == x) = false := by simpa using hx
        simp [this]
  · obtain ⟨d, q, nx, h1, h2⟩ := h.hv x v hx
    exact ⟨d, q, nx, by rw [List.find?_append, h1]; rfl, h2⟩
theorem SeenR.new {sc pre rest : List Sc} {ks : List Str} {vs : List AV} (h : SeenR sc pre ks vs) {c : Sc} (hc : c.label ∉ ks) (hd : Data (scAV (c :: rest))) : SeenR sc (pre ++ [c]) (setA ks vs c.label (scAV (c :: rest))).1 (setA ks vs c.label (scAV (c :: rest))).2 := by
  have hno : pre.find? (isSc c.label) = none := by
    cases e : pre.find? (isSc c.label) with
    | none => rfl
    | some q => exact absurd ((h.hk _).2 ⟨q, e⟩) hc
  refine ⟨setA_len h.hl _ _, setA_nodup h.hl _ _ h.hn, fun x => ?_, fun x v hx => ?_⟩
  · rw [setA_mem h.hl, h.hk, List.find?_append]
    by_cases hx : x = c.label
    · subst hx; rw [hno]; simp [isSc]
    · have : (c.label == x) = false := by simpa using fun e => hx e.symm
      cases e : pre.find? (isSc x) with
      | some y => simp
      | none => simp [isSc, this, hx]
  · rw [getA_setA h.hl] at hx
    by_cases he : c.label = x
    · subst he
      rw [if_pos rfl] at hx
      cases hx
      exact ⟨hd, c, _, by rw [List.find?_append, hno]; simp [isSc], rfl⟩
    · rw [if_neg he] at hx
      obtain ⟨d, q, nx, h1, h2⟩ := h.hv x v hx
      exact ⟨d, q, nx, by rw [List.find?_append, h1]; rfl, h2⟩
theorem SeenR.gv {sc : List Sc} {ks : List Str} {vs : List AV} {s : List Bd} (h : SeenR sc sc ks vs) (hs : SR sc s) : GvL ks vs (seenL s []) := by
  refine ⟨h.hl, h.hn, fun x => ?_, fun x v k hx hk => ?_⟩
  · rw [h.hk, findL_iff, seenL_find]
    rcases hs.at' x with ⟨h1, h2⟩ | ⟨c, b, h1, h2, _⟩
    · rw [h1, h2]; simp [findL]
    · rw [h1, h2]; simp
  · obtain ⟨d, c, nx, h1, h2⟩ := h.hv x v hx
    rw [seenL_find] at hk
    rcases hs.at' x with ⟨h3, h4⟩ | ⟨c', b, h3, h4, h5⟩
    · rw [h1] at h3; cases h3
    · rw [h1] at h3; cases h3
      rw [h4] at hk
      cases hk
      exact ⟨d, c.has, nx, by rw [h2, h5.site, h5.br]; rfl⟩
theorem joinL_cons (x : Str) (l : List Str) (h : l ≠ []) : joinL (x :: l) = x ++ 46 :: joinL l := by
  cases l with
  | nil => exact absurd rfl h
  | cons y l => simp [joinL, List.intercalate, List.intersperse]
theorem joinL_one (x : Str) : joinL [x] = x := by simp [joinL, List.intercalate, List.intersperse]
theorem join_pieces : ∀ (acc s : Str), joinL (pieces acc s) = acc ++ s
  | acc, [] => by simp [pieces, joinL_one]
  | acc, c :: s => by
    simp only [pieces]
    split
    · rename_i hc
      rw [joinL_cons _ _ (pieces_ne _ _), join_pieces [] s, hc]; rfl
    · rw [join_pieces (acc ++ [c]) s]; simp
end Go.Av
namespace Go.Av
open Go.Proofs
variable {W0 : World}
set_option maxRecDepth 10000
set_option maxHeartbeats 4000000
theorem sf61 {sc : List Sc} {lab : Str} {p : Path} {own : Own} {v : AV} {l : List Hs} {H : Hp} (hs : ScOK sc) (hv : HR v l) : SF Tryz.prog W0 61 [scAV sc, .str lab, .sl 1 (ints p) own, v] H fun x H' => H' = H ∧ x = scAV (⟨lab, p, false, v⟩ :: sc) := by
  have h1 := scAV_data hs
  have h2 := hv.data
  refine SF.pureLe (sf_start [8] 15 Tryz.func61 rfl rfl rfl (by decide) (by simp) ?_)
  repeat' first
    | refine aSq ?_ | refine aRt ?_
    | (refine ru ?_ (by simp (disch := omega) [hv.cells, hv.okc]; with_reducible rfl))
    | fail
  exact ⟨Gr.refl _, _, by simp [h1 _ _, h2 _ _]; exact .ptr (.cons (.refl _) (.cons (.shut _ _ _) (LeL.refl _))), by simp [scAV]⟩
theorem sf148 {sc : List Sc} {x : Str} {H : Hp} (hs : ScOK sc) : SF Tryz.prog W0 148 [scAV sc, .str x] H fun r H' => H' = H ∧ r = scAV (sc.dropWhile fun c => !isSc x c) := by
  refine SF.pureLe (sf_start [4] 20 Tryz.func148 rfl rfl rfl (by decide) (by simp) ?_)
  repeat' first
    | refine aSq ?_ | refine aBl ?_
    | refine ru ?_
    | fail
  obtain ⟨fin, hfin⟩ : ∃ fin, (sc.dropWhile fun c => !isSc x c) = fin := ⟨_, rfl⟩
  rw [hfin]
  refine awp_loop_inv (fun q st => ∃ (cur : List Sc), q = cur.length ∧ (cur.dropWhile fun c => !isSc x c) = fin ∧ ScOK cur ∧
    Sub st ⟨20, [(0, scAV cur), (1, .str x)], H⟩) sc.length
    ⟨sc, rfl, hfin, hs, sb⟩ ?_
  clear hfin hs
  rintro q st ⟨cur, rfl, hfin, hs, hs2⟩
  refine awp_sub hs2 ?_
  clear hs2 st
  cases cur with
  | nil =>
    simp only [scAV]
    repeat' first
      | refine aSq ?_ | refine aRt ?_ | refine aEx ?_ | refine tN ?_
      | (refine rg 1 ?_; refine tk 2 ?_; (first | (refine te (fun hb => ?_) (fun hb => ?_) <;> (try simp at hb) <;> try (exfalso; omega)) | (refine tk 1 ?_)); all_goals (refine tk 7 ?_; refine dn ?_))
      | refine ru ?_
      | (refine awp_if rfl (fun hb => ?_) (fun hb => ?_) <;> (try simp at hb) <;> try (exfalso; omega))
      | fail
    subst hfin
    exact ⟨Gr.refl _, _, by simp; exact .refl _, rfl⟩
  | cons c cur =>
    have h1 := scAV_data hs
    simp only [scAV] at h1 ⊢
    by_cases hx : c.label = x
    · repeat' first
        | refine aSq ?_ | refine aRt ?_ | refine aEx ?_ | refine tN ?_
        | (refine rg 1 ?_; refine tk 2 ?_ (by simp (disch := omega) [hx]; with_reducible rfl); (first | (refine te (hs := (by simp (disch := omega) [hx]; with_reducible rfl)) (fun hb => ?_) (fun hb => ?_) <;> (try simp at hb) <;> try (exfalso; omega)) | (refine tk 1 ?_ (by simp (disch := omega) [hx]; with_reducible rfl))); all_goals (refine tk 7 ?_ (by simp (disch := omega) [hx]; with_reducible rfl); refine dn ?_))
        | (refine ru ?_ (by simp (disch := omega) [hx]; with_reducible rfl))
        | (refine awp_if rfl (fun hb => ?_) (fun hb => ?_) <;> (try simp at hb) <;> try (exfalso; omega))
        | fail
      have : isSc x c = true := by simp [isSc, hx]
      simp only [List.dropWhile_cons, this, Bool.not_true, Bool.false_eq_true, if_false] at hfin
      subst hfin
      rw [hx] at h1
      exact ⟨Gr.refl _, _, .of_eq (h1 _ _), by simp only [scAV, hx]⟩
    · repeat' first
        | refine aSq ?_ | refine aRt ?_ | refine aSk ?_ | refine aEx ?_ | refine aBl ?_ | refine tN ?_
        | (refine rg 1 ?_; refine tk 2 ?_ (by simp (disch := omega) [hx]; with_reducible rfl); (first | (refine te (hs := (by simp (disch := omega) [hx]; with_reducible rfl)) (fun hb => ?_) (fun hb => ?_) <;> (try simp at hb) <;> try (exfalso; omega)) | (refine tk 1 ?_ (by simp (disch := omega) [hx]; with_reducible rfl))); all_goals (refine tk 7 ?_ (by simp (disch := omega) [hx]; with_reducible rfl); refine dn ?_))
        | (refine ru ?_ (by simp (disch := omega) [hx]; with_reducible rfl))
        | (refine awp_if rfl (fun hb => ?_) (fun hb => ?_) <;> (try simp at hb) <;> try (exfalso; omega))
        | refine inN ?_
      · have : isSc x c = false := by simp [isSc, hx]
        simp only [List.dropWhile_cons, this, Bool.not_false, if_true] at hfin
        exact ⟨cur.length, by simp, cur, rfl, hfin, fun c hc => hs c (.tail _ hc), sb⟩
      · exact absurd hb hx
theorem dropWhile_find {sc : List Sc} {x : Str} : (sc.find? (isSc x) = none ∧ (sc.dropWhile fun c => !isSc x c) = []) ∨ ∃ c r, sc.find? (isSc x) = some c ∧ (sc.dropWhile fun c => !isSc x c) = c :: r := by
  induction sc with
  | nil => exact .inl ⟨rfl, rfl⟩
  | cons c sc ih =>
    simp only [List.find?_cons, List.dropWhile_cons]
    cases e : isSc x c with
    | true => exact .inr ⟨c, sc, by simp, by simp⟩
    | false => simpa using ih
theorem lib_keys_H {v : AV} {l : List Hs} (h : HR v l) : ∃ ks, (∀ H, mapIs H v ks) ∧ ks.Nodup ∧ (∀ x, x ∈ ks ↔ x ∈ l.map Hs.label) := by
  cases h with
  | nil => exact ⟨[], fun _ => .inl ⟨rfl, rfl⟩, by simp, by simp⟩
  | @map ks vs l hl hn hk hv => exact ⟨ks, fun _ => .inr (.inl ⟨vs, rfl⟩), hn, hk⟩
def valOf (v : AV) (x : Str) : AV := (getV v x).getD .mnil
theorem HR.val {v : AV} {l : List Hs} (h : HR v l) (x : Str) (k : Hs) (e : findL (isH x) l = some k) : HR (valOf v x) k.ins := by
  rcases h.look x with ⟨_, h2⟩ | ⟨w, k', h1, h2, h3⟩
  · rw [e] at h2; cases h2
  · rw [e] at h2; cases h2
    rw [valOf, h1]; exact h3
def GvO (H : Hp) (ro : Nat) (o : List Hs) : Prop := ∃ ks vs, H.objs[ro]? = some (.map ks vs) ∧ GvR ks vs o
theorem look86 {v : AV} {l : List Hs} (h : HR v l) (H : Hp) (x : Str) : lookA tab H 86 v (.str x) false = some (valOf v x) := by
  cases h with
  | nil => rfl
  | @map ks vs l hl hn hk hv => simp [lookA, hl, valOf, getV, lookOut, ZC.av]
theorem put82 {H : Hp} {r : Nat} {ks : List Str} {vs : List AV} {k : Str} {v : AV} (h : H.objs[r]? = some (.map ks vs)) : putA tab H 82 (.mref r) (.str k) v = some { H with objs := H.objs.set r (.map (setA ks vs k v).1 (setA ks vs k v).2) } := by
  simp [putA, h]
theorem sf69 (hB : LibOK W0) {sc : List Sc} {s : List Bd} {v : AV} {l o : List Hs} {p : Path} {own : Own} {H : Hp} {ro : Nat} (hs : SR sc s) (hv : HR v l) (hll : l.length ≤ 60000000) (hl2 : ∀ h ∈ l, h.label.length ≤ 200) (hg : GvO H ro o) :
    SF Tryz.prog W0 69 [scAV sc, v, .sl 1 (ints p) own, .mref ro] H fun x H' => (∃ sc', x = scAV sc' ∧ SR sc' (bringB s l p)) ∧ GvO H' ro (putAll o l p) ∧ Fr (· = ro) H H' ∧ H'.hi = H.hi := by
  obtain ⟨ks0, hm, hn, hk⟩ := lib_keys_H hv
  obtain ⟨ks, vs, hob, hgr⟩ := hg
  have hlt := obj_lt hob
  obtain ⟨S, hS⟩ : ∃ S, sortS ks0 = S := ⟨_, rfl⟩
  have hSm : ∀ x, x ∈ S ↔ x ∈ l.map Hs.label := fun x => by rw [← hS, (sortS_perm ks0).mem_iff, hk]
  have hkl : ks0.length ≤ l.length := by
    have := length_le_of_nodup hn (U := l.map Hs.label) fun x hx => (hk x).1 hx
    simpa using this
  have hSl : S.length ≤ 60000000 := by rw [← hS, sortS_len]; omega
  have hk2 : ∀ x ∈ ks0, x.length ≤ 9223372036854775807 := fun x hx => by
    obtain ⟨h, hh, rfl⟩ := List.mem_map.1 ((hk x).1 hx)
    have := hl2 h hh
    omega
  refine SF.cut (sf_start [8] 32 Tryz.func69 rfl rfl rfl (by decide) (by simp) ?_)
  repeat' first
    | refine aSq ?_ | refine aBl ?_
    | (refine rg 1 ?_; refine tk 1 ?_; refine fc en107 ?_; refine (hB.u107 v ks0 H (hm H)).mono ?_; rintro _ H1 ⟨rfl, rfl⟩; refine fc en71 ?_; refine SF.then (hB.u71b v ks0 _ H.objs.length (hm _) (by simp) (by omega) hk2) ?_; rw [hS]; refine tk 2 ?_; refine dn ?_)
    | refine ru ?_
    | fail
  have hdv := hv.data
  refine awp_loop_inv (fun q st => ∃ (i : Nat) (sc' : List Sc) (ks' : List Str) (vs' : List AV) (Hc : Hp), q = S.length - i ∧ i ≤ S.length ∧ IncR (valOf v) p sc ks vs (S.take i) sc' ks' vs' ∧ Hc.objs[ro]? = some (.map ks' vs') ∧ H.objs.length ≤ Hc.objs.length ∧ (∀ j, j < H.objs.length → j ≠ ro → Hc.objs[j]? = H.objs[j]?) ∧ Hc.hi = H.hi ∧
    Sub st ⟨32, [(0, scAV sc'), (1, v), (2, .sl 1 (ints p) .shut), (3, .mref ro), (13, .sl 1 (strs S) .shut), (14, .int .i64 S.length), (15, .int .i64 i)], Hc⟩) S.length
    ⟨0, sc, ks, vs, ⟨H.objs ++ [.cells [v]], H.hi⟩, by simp, by simp, .refl hs.ok hgr.hl hgr.hn, by simp only; rw [List.getElem?_append_left hlt]; exact hob, by simp, fun j hj _ => by simp only; rw [List.getElem?_append_left hj], rfl, sb⟩ ?_
  rintro q st ⟨i, sc', ks', vs', Hc, rfl, hi, hinc, hob', hlc, hfc, hic, hs2⟩
  refine awp_sub hs2 ?_
  clear hs2 st
  have hlr := obj_lt hob'
  have hvx : ∀ h : i < S.length, ∃ k, HR (valOf v S[i]) k := fun h => by
    obtain ⟨k, hk, _⟩ := findL_mem ((hSm _).1 (List.getElem_mem h))
    exact ⟨_, hv.val _ k hk⟩
  repeat' first
    | refine aSq ?_ | refine aRt ?_ | refine aSk ?_ | refine aEx ?_ | refine aBl ?_ | refine tN ?_
    | (refine rg 4 ?_; obtain ⟨k, hvk⟩ := hvx (by assumption); refine tk 9 ?_ (by simp [-lookA, look86 hv, hvk.cells, hvk.okc]; with_reducible rfl); refine dn ?_)
    | (refine rg 5 ?_; refine tk 4 ?_ (by simp [-putA, put82 hob']; with_reducible rfl); refine dn ?_)
    | refine ru ?_
    | (refine awp_if rfl (fun hb => ?_) (fun hb => ?_) <;> (try simp at hb) <;> try (exfalso; omega))
    | fail
  · have hlt2 : i < S.length := by assumption
    refine ⟨S.length - (i + 1), by omega, i + 1, ⟨S[i], p, true, valOf v S[i]⟩ :: sc', _, _, ⟨Hc.objs.set ro (.map (setA ks' vs' S[i] (scAV (⟨S[i], p, true, valOf v S[i]⟩ :: sc'))).1 (setA ks' vs' S[i] (scAV (⟨S[i], p, true, valOf v S[i]⟩ :: sc'))).2), Hc.hi⟩, rfl, by omega, by rw [take_one S i hlt2]; exact hinc.step hvk.data, ?_, ?_, ?_, hic, sb (only_cons (by simp [scAV]) (only_cons (by simp) (only_cons (by simp) (only_cons (by simp) (only_cons (by simp) (only_cons (by simp) (only_cons (by simp (disch := omega)) only_nil)))))))⟩
    · simp [hlr]
    · simpa using hlc
    · intro j hj hne
      simp only
      rw [List.getElem?_set_ne (Ne.symm hne)]
      exact hfc j hj hne
  · rw [List.take_of_length_le (by omega)] at hinc
    have h1 := hinc.sr hs hSm hv.val
    have h2 := hinc.gv hgr hSm hv.val
    refine ⟨max H.hi.length Hc.hi.length, Nat.le_max_left _ _, fun hold => ⟨⟨sc', scAV_data hinc.ok _ _, h1⟩, ⟨ks', vs', ?_, h2⟩, fr_end hlc hfc hold _, by simp [hic]⟩⟩
    simp only [List.getElem?_map, List.getElem?_take, hlt, if_true, hob']
    simp [clnO, h2.gvl.data _ _]
end Go.Av
namespace Go.Av
open Go.Proofs
variable {W0 : World}
set_option maxRecDepth 10000
set_option maxHeartbeats 4000000
theorem fr_objs {H H' : Hp} (h : Fr (fun _ => False) H H') : H'.objs = H.objs := List.ext_getElem? fun j => h.2 j id
theorem hp_ext {H H' : Hp} (a : H'.objs = H.objs) (b : H'.hi = H.hi) : H' = H := by cases H; cases H'; simp_all
theorem sf67 (hB : LibOK W0) {sc : List Sc} {s : List Bd} {v : AV} {l : List Hs} {p : Path} {own : Own} {H : Hp} (hs : SR sc s) (hv : HR v l) (hll : l.length ≤ 60000000) (hl2 : ∀ h ∈ l, h.label.length ≤ 200) :
    SF Tryz.prog W0 67 [scAV sc, v, .sl 1 (ints p) own] H fun x H' => H' = H ∧ ∃ sc', x = scAV sc' ∧ SR sc' (bringB s l p) := by
  refine SF.cut (sf_start [6] 12 Tryz.func67 rfl rfl rfl (by decide) (by simp) ?_)
  repeat' first
    | refine aSq ?_ | refine aRt ?_
    | (refine rg 1 ?_; refine tk 4 ?_; refine fc en69 ?_; refine (sf69 hB (o := []) hs hv hll hl2 ⟨[], [], by simp, .nil⟩).mono ?_; rintro x H1 ⟨⟨sc2, rfl, hs2⟩, hg2, hf2, hi2⟩; refine tk 1 ?_; refine dn ?_)
    | refine ru ?_
    | fail
  have hf3 := hf2.2
  have hf4 := hf2.1
  simp only [List.length_append, List.length_singleton] at hf3 hf4
  refine ⟨max H.hi.length H1.hi.length, Nat.le_max_left _ _, fun hold => ⟨hp_ext (fr_objs (fr_end (by simp only; omega) (fun j hj _ => ?_) hold _)) (by simp only at hi2; simp [hi2]), sc2, scAV_data hs2.ok _ _, hs2⟩⟩
  rw [hf3 j (by omega), List.getElem?_append_left hj]
structure TkR (ks : List Str) (vs : List AV) (left : List Nat) (ks' : List Str) (vs' : List AV) : Prop where
  hl : ks'.length = vs'.length
  hn : ks'.Nodup
  hk : ∀ x, x ∈ ks' ↔ ∃ j, j ∉ left ∧ ks[j]? = some x
  hv : ∀ x v, getA ks' vs' x = some v → ∃ a b c nx, getA ks vs x = some (.ptr [a, b, c, v, nx])
theorem TkR.refl (ks : List Str) (vs : List AV) : TkR ks vs (List.range ks.length) [] [] := by
  refine ⟨rfl, by simp, fun x => ⟨fun h => by simp at h, fun ⟨j, hj, e⟩ => ?_⟩, by simp [getA]⟩
  rw [List.getElem?_eq_none (by simpa using hj)] at e
  cases e
theorem TkR.step {ks ks' : List Str} {vs vs' : List AV} {left : List Nat} (h : TkR ks vs left ks' vs') (hl : ks.length = vs.length) (hn : ks.Nodup) {j : Nat} (hj : j < ks.length) (hm : j ∈ left) {a b c v nx : AV} (hv : vs[j]? = some (.ptr [a, b, c, v, nx])) :
    TkR ks vs (left.filter fun i => !(i == j)) (setA ks' vs' ks[j] v).1 (setA ks' vs' ks[j] v).2 := by
  have hjv : j < vs.length := hl ▸ hj
  have he : vs[j] = .ptr [a, b, c, v, nx] := by rw [List.getElem?_eq_getElem hjv] at hv; exact Option.some.inj hv
  refine ⟨setA_len h.hl _ _, setA_nodup h.hl _ _ h.hn, fun x => ?_, fun x w hw => ?_⟩
  · rw [setA_mem h.hl, h.hk]
    constructor
    · rintro (rfl | ⟨i, hi, e⟩)
      · exact ⟨j, by simp, List.getElem?_eq_getElem hj⟩
      · exact ⟨i, fun q => hi (List.mem_filter.1 q).1, e⟩
    · rintro ⟨i, hi, e⟩
      by_cases hij : i = j
      · subst hij
        rw [List.getElem?_eq_getElem hj] at e
        exact .inl (Option.some.inj e).symm
      · refine .inr ⟨i, fun q => hi (List.mem_filter.2 ⟨q, by simpa using hij⟩), e⟩
  · rw [getA_setA h.hl] at hw
    split at hw
    · rename_i hx
      subst hx
      cases hw
      exact ⟨a, b, c, nx, by rw [getA_at hl hn j hj hjv, he]⟩
    · exact h.hv x w hw
theorem TkR.hr {ks ks' : List Str} {vs vs' : List AV} {o : List Hs} (h : TkR ks vs [] ks' vs') (hg : GvR ks vs o) : HR (.mapv ks' vs') o := by
  refine .map h.hl h.hn (fun x => ?_) (fun x v k hx hk => ?_)
  · rw [h.hk, ← hg.hk, List.mem_iff_getElem?]; simp
  · obtain ⟨a, b, c, nx, e⟩ := h.hv x v hx
    obtain ⟨_, hv, nx2, e2, h3⟩ := hg.hv x _ k e hk
    simp only [AV.ptr.injEq, List.cons.injEq] at e2
    rw [e2.2.2.2.1]; exact h3
theorem sf105 {ks : List Str} {vs : List AV} {o : List Hs} {H : Hp} (hg : GvR ks vs o) :
    SF Tryz.prog W0 105 [.mapv ks vs] H fun x H' => H' = H ∧ HR x o := by
  have hdv := hg.gvl.data
  refine SF.pureLe (sf_start [2] 21 Tryz.func105 rfl rfl rfl (by decide) (by simp) ?_)
  have hd1 : ∀ n m, clnL n m vs = vs := hdv
  repeat' first
    | refine aSq ?_
    | refine ru ?_
    | fail
  refine rg 2 ?_
  refine tk 1 ?_
  refine aops_cons (aeff_rangeM (T := tab) (ks := ks) (vs := vs) tab_ok (by simp [wantA]) rfl tab82 (by simp) ?_)
  refine dn ?_
  repeat' first
    | refine aBl ?_
  refine awp_loop_inv (fun q st => ∃ (left : List Nat) (last : Nat) (ks' : List Str) (vs' : List AV), q = left.length ∧ TkR ks vs left ks' vs' ∧ (∀ j ∈ left, j < ks.length) ∧
    Sub st ⟨21, [(3, .mref H.objs.length), (8, .ref (H.objs.length + 1) 0)], ⟨H.objs ++ [.map ks' vs', .miter ks vs left last], H.hi⟩⟩) ks.length
    ⟨List.range ks.length, ks.length, [], [], by simp, TkR.refl ks vs, by simp, sb (hH := by simp)⟩ ?_
  rintro q st ⟨left, last, ks', vs', rfl, ht, hlf, hs2⟩
  refine awp_sub hs2 ?_
  clear hs2 st
  have hvj : ∀ j (h : j < ks.length), ∃ k hv nx, vs[j]? = some (.ptr [.str ks[j], .sl 1 (ints (Hs.site k)) .shut, .bool k.br, hv, nx]) ∧ HR hv k.ins := fun j h => by
    have h2 : j < vs.length := hg.hl ▸ h
    have e := getA_at hg.hl hg.hn j h h2
    obtain ⟨k, hk, _⟩ := findL_mem ((hg.hk _).1 (List.getElem_mem h))
    obtain ⟨_, hv, nx, e2, h3⟩ := hg.hv _ _ k e hk
    exact ⟨k, hv, nx, by rw [List.getElem?_eq_getElem h2, e2], h3⟩
  repeat' first
    | refine aSq ?_ | refine aRt ?_ | refine aSk ?_ | refine aEx ?_ | refine aBl ?_ | refine tN ?_
    | (refine rg 3 ?_; refine aops_cons (aeff_nextM (r := H.objs.length + 1) (ks := ks) (vs := vs) (left := left) (last := last) (by simp [wantA]) rfl (by simp) (by simp) (fun hend => ?_) (fun j hj hjl => ?_)); (all_goals refine tk 1 ?_); all_goals refine dn ?_)
    | (refine rg 4 ?_; obtain ⟨k, hv, nx, hvs, hvk⟩ := hvj j hjl; (have hvs2 : vs.getD j .any = .ptr [.str ks[j], .sl 1 (ints (Hs.site k)) .shut, .bool k.br, hv, nx] := by rw [List.getD_eq_getElem?_getD, hvs]; rfl); refine aops_cons (aeff_entryM (r := H.objs.length + 1) (last := j) (ks := ks) (vs := vs) (left := left.filter fun i => !(i == j)) (by simp [wantA]) rfl (by simp) (by simp) hjl ?_); rw [hvs2]; refine tk 4 ?_; refine dn ?_)
    | (refine rg 5 ?_; refine tk 7 ?_ (by simp [hvk.cells, hvk.okc]; with_reducible rfl); refine dn ?_)
    | (refine (show AWP Tryz.prog W0 (Code.region 6 _ _) _ _ from ?_); refine awp_only [(3, .mref H.objs.length)] (only_cons (by simp) only_nil) ?_; refine awp_freeze H.objs.length [(3, .mapv ks' vs')] (o := .map ks' vs') (by simp) (.cons (.map _ _ rfl) .nil) ?_; refine ru ?_)
    | (refine awp_if rfl (fun hb => ?_) (fun hb => ?_) <;> (try simp at hb) <;> try (exfalso; omega))
    | refine inN ?_
  · subst hend
    have h1 := ht.hr hg
    refine ⟨⟨by simp [List.set_append_right], by simp⟩, .mapv ks' vs', by simpa using Le.of_eq (h1.data _ _), h1⟩
  · have hlt : (left.filter fun i => !(i == j)).length < left.length := List.length_filter_lt_length_iff_exists.2 ⟨j, hj, by simp⟩
    refine ⟨_, hlt, left.filter fun i => !(i == j), j, _, _, rfl, ht.step hg.hl hg.hn hjl hj hvs, fun i hi => hlf i (List.mem_filter.1 hi).1, sb (hH := by simp [List.set_append_right])⟩
end Go.Av
namespace Go.Av
open Go.Proofs
variable {W0 : World}
set_option maxRecDepth 10000
set_option maxHeartbeats 4000000
section
variable {P : Program} {ops : Array Oper} {Q : Exit → St → Prop}
theorem aany_rebase {late late' : List Nat} {H0 H1 : Hp} : ∀ (n : Nat) (listed : Array Bool) (st : St), (late.any fun j => listed.getD j false) = true → AAny P W0 (Early late' H1) ops Q n listed st → AAny P W0 (Early late H0) ops Q n listed st
  | 0, _, _, _, h => h
  | n + 1, listed, st, hl, h => ⟨h.1, fun i hi o ho => (h.2 i hi o ho).mono fun H' y ⟨_, q⟩ => by
      have hs : (late.any fun j => (listed.setIfInBounds i true).getD j false) = true := by
        obtain ⟨j, hj, e⟩ := List.any_eq_true.1 hl
        refine List.any_eq_true.2 ⟨j, hj, ?_⟩
        by_cases hij : i = j
        · subst hij
          have : i < listed.size := by
            rcases Nat.lt_or_ge i listed.size with q | q
            · exact q
            · simp [Array.getD, Nat.not_lt.2 q] at e
          simp [Array.getD, this]
        · simp only [Array.getD_eq_getD_getElem?, Array.getElem?_setIfInBounds, hij, if_false] at e ⊢; exact e
      exact ⟨.inl hs, aany_rebase n _ _ hs q⟩⟩
theorem aw_base {late : List Nat} (late' : List Nat) {H0 : Hp} {n : Nat} {listed : Array Bool} {st : St} (hl : (late.any fun j => listed.getD j false) = true) (h : AW P W0 ops late' st.H Q listed n st) : AW P W0 ops late H0 Q listed n st :=
  fun hsz hcl _ => aany_rebase n listed st hl (h hsz hcl (.inr rfl))
end
theorem look86t {v : AV} {l : List Hs} (h : HR v l) (H : Hp) (x : Str) : lookA tab H 86 v (.str x) true = some (.tuple [valOf v x, .bool (getV v x).isSome]) := by
  cases h with
  | nil => rfl
  | @map ks vs l hl hn hk hv => simp [lookA, hl, valOf, getV, lookOut, ZC.av]
def meantR (p : Path) (sp : Str) (names : List Str) (c : Sc) (b : Bd) : AV → Prop := fun r =>
  match goIn sp (names.drop 1) b.ins with
  | none => r = .tuple [.agg (Lk.mk [] [] [] [] []).av, .mnil, .bool false]
  | some h => ∃ hv, (HR c.has b.ins → HR hv h) ∧ r = .tuple [.agg (Lk.mk p sp (joinL names) b.site (if b.br then names else names.drop 1)).av, hv, .bool true]
theorem sf73 (hB : LibOK W0) {c : Sc} {nx : AV} {b : Bd} {p : Path} {sp : Str} {names : List Str} {o1 o2 : Own} {H : Hp} (hs : c.site = b.site) (hbr : c.br = b.br) (hd : Data c.has) (hh : names.length = 1 ∨ HR c.has b.ins) (h0 : 0 < names.length) (hn : names.length ≤ 1000)
    (hx : ∀ y ∈ names, y.length ≤ 300) (hj : (joinL names).length ≤ 1000) (hsp : sp.length ≤ 10) (hp : p.length ≤ 67108863) (hst : b.site.length ≤ 67108863) :
    SF Tryz.prog W0 73 [.ptr [.str c.label, .sl 1 (ints c.site) .shut, .bool c.br, c.has, nx], .sl 1 (ints p) o1, .str sp, .sl 1 (strs names) o2] H fun r H' => H' = H ∧ meantR p sp names c b r := by
  refine SF.pureLe (sf_startC 8 38 [9, 10] 75 tab_ok Tryz.func73 rfl rfl rfl (by decide) (by simp) ?_)
  repeat' first
    | refine aSq ?_ | refine aBl ?_
    | (refine ru ?_ (by simp (disch := omega) [small_ifI]; with_reducible rfl))
    | fail
  obtain ⟨res, hres⟩ : ∃ res, goIn sp (names.drop 1) b.ins = res := ⟨_, rfl⟩
  simp only [meantR, hres]
  refine awp_loop_inv (fun q st => ∃ (i : Nat) (cur : List Hs) (hv : AV), q = names.length - (i + 1) ∧ i + 1 ≤ names.length ∧ goIn sp (names.drop (i + 1)) cur = res ∧ Data hv ∧ (HR c.has b.ins → HR hv cur) ∧
    Sub st ⟨75, [(0, .ptr [.str c.label, .sl 1 (ints c.site) .shut, .bool c.br, c.has, nx]), (1, .sl 1 (ints p) o1), (2, .str sp), (3, .sl 1 (strs names) o2), (8, .ref H.objs.length 0), (9, .mnil), (10, .bool false), (11, hv), (23, .sl 1 (strs names.tail) .shut), (24, .int .i64 (names.length - 1 : Nat)), (25, .int .i64 i)],
      { H with objs := H.objs ++ [.cells [.slnil, .str [], .str [], .slnil, .slnil]] }⟩) (names.length - 1)
    ⟨0, b.ins, c.has, by simp, by omega, hres, hd, fun h => h, sb⟩ ?_
  clear hres
  rintro q st ⟨i, cur, hv, rfl, hi, hgo, hdv, hvr, hs2⟩
  refine awp_sub hs2 ?_
  clear hs2 st
  rcases Nat.lt_or_ge (i + 1) names.length with hlt | hge
  · rw [goIn_drop hlt] at hgo
    have hxi := hx names[i + 1] (List.getElem_mem _)
    have hR : HR hv cur := hvr (hh.resolve_left (by omega))
    by_cases hla : i + 2 = names.length
    · rw [if_pos hla] at hgo
      rcases hR.look (sp ++ 58 :: names[i + 1]) with ⟨g1, g2⟩ | ⟨w, k, g1, g2, g3⟩
      all_goals
        rw [g2] at hgo
        repeat' first
          | refine aSq ?_ | refine aRt ?_ | refine aSk ?_ | refine aBl ?_ | refine tN ?_ | refine tR ?_ | refine iR ?_
          | (refine rg 8 ?_; refine tk 8 ?_ (by simp [-lookA, look86t hR, g1]; with_reducible rfl); refine dn ?_)
          | (refine ru ?_ (by simp (disch := omega) [small_if, small_ifI]; with_reducible rfl))
          | (refine awp_if rfl (fun hb => ?_) (fun hb => ?_) <;> (try simp at hb) <;> try (exfalso; omega))
          | fail
      all_goals first
        | omega
        | (exact absurd (g1.symm.trans hb) (by simp))
        | (exact absurd g1 hb)
        | (simp only at hgo
           subst hgo
           simp [retC]
           exact ⟨(Gr.refl H).obj _, .tuple (.cons (.agg (.cons (.nilShut 1) (.cons (.refl _) (.cons (.refl _) (.cons (.nilShut 1) (.cons (.nilShut 1) .nil)))))) (LeL.refl _))⟩)
        | exact ⟨names.length - (i + 1 + 1), by omega, i + 1, k.ins, w, rfl, by omega, by simpa only using hgo, g3.data, fun _ => g3, sb (by (repeat' first | exact only_nil | refine only_cons (by first | (simp (disch := omega); done) | exact .of_eq (by simp [valOf, g1])) ?_))⟩
    · rw [if_neg hla] at hgo
      simp only [List.cons_append, List.nil_append] at hgo
      rcases hR.look (109 :: 58 :: names[i + 1]) with ⟨g1, g2⟩ | ⟨w, k, g1, g2, g3⟩
      all_goals
        rw [g2] at hgo
        repeat' first
          | refine aSq ?_ | refine aRt ?_ | refine aSk ?_ | refine aBl ?_ | refine tN ?_ | refine tR ?_ | refine iR ?_
          | (refine rg 8 ?_; refine tk 8 ?_ (by simp [-lookA, look86t hR, g1]; with_reducible rfl); refine dn ?_)
          | (refine ru ?_ (by simp (disch := omega) [small_if, small_ifI]; with_reducible rfl))
          | (refine awp_if rfl (fun hb => ?_) (fun hb => ?_) <;> (try simp at hb) <;> try (exfalso; omega))
          | fail
      all_goals first
        | omega
        | (exact absurd (g1.symm.trans hb) (by simp))
        | (exact absurd g1 hb)
        | (simp only at hgo
           subst hgo
           simp [retC]
           exact ⟨(Gr.refl H).obj _, .tuple (.cons (.agg (.cons (.nilShut 1) (.cons (.refl _) (.cons (.refl _) (.cons (.nilShut 1) (.cons (.nilShut 1) .nil)))))) (LeL.refl _))⟩)
        | exact ⟨names.length - (i + 1 + 1), by omega, i + 1, k.ins, w, rfl, by omega, by simpa only using hgo, g3.data, fun _ => g3, sb (by (repeat' first | exact only_nil | refine only_cons (by first | (simp (disch := omega); done) | exact .of_eq (by simp [valOf, g1])) ?_))⟩
  · have hin : i + 1 = names.length := by omega
    rw [hin, List.drop_length] at hgo
    simp only [goIn] at hgo
    subst hgo
    repeat' first
      | refine aSq ?_ | refine aEx ?_
      | (refine ru ?_ (by simp (disch := omega) [small_if, small_ifI]; with_reducible rfl))
      | (refine awp_if rfl (fun hb => ?_) (fun hb => ?_) <;> (try simp at hb) <;> try (exfalso; omega))
      | fail
    refine AWP.mono (Q := fun e st => e = .normal ∧ Sub st ⟨75, [(0, .ptr [.str c.label, .sl 1 (ints c.site) .shut, .bool c.br, c.has, nx]), (3, .sl 1 (strs names) o2), (8, .ref H.objs.length 0), (11, hv), (17, .ref (H.objs.length + 1) 0)],
      { H with objs := H.objs ++ [.cells [.slnil, .str [], .str [], .slnil, .slnil], .cells [.sl 1 (ints p) .shut, .str sp, .str (joinL names), .sl 1 (ints c.site) .shut, .sl 1 (strs names.tail) .shut]] }⟩) ?_ ?_
    · rintro e st ⟨rfl, hs2⟩
      refine thenN (awp_sub hs2 ?_)
      repeat' first
        | refine aSq ?_ | refine aRt ?_ | refine aSk ?_ | refine tN ?_
        | (refine rg 15 ?_; refine tk 1 ?_ (by simp (disch := omega) [small_if, small_ifI]; with_reducible rfl); refine fc en113 ?_; refine SF.then (sf113 (l := names) (own := o2) (by omega)) ?_; refine tk 2 ?_ (by simp (disch := omega) [small_if, small_ifI]; with_reducible rfl); refine dn ?_)
        | (refine ru ?_ (by simp (disch := omega) [small_if, small_ifI]; with_reducible rfl))
        | (refine awp_if rfl (fun hb => ?_) (fun hb => ?_) <;> (try simp at hb) <;> try (exfalso; omega))
        | fail
      · simp [retC]
        exact ⟨⟨by simp, by simp⟩, _, .tuple (.cons (.refl _) (.cons (.refl _) (.cons (.refl _) .nil))), hv, hvr, by simp [Lk.av, hs, ← hbr, hb, hdv _ _]⟩
      · simp [retC]
        exact ⟨⟨by simp, by simp⟩, _, .tuple (.cons (.refl _) (.cons (.refl _) (.cons (.refl _) .nil))), hv, hvr, by simp [Lk.av, hs, ← hbr, hb, hdv _ _]⟩
    · refine awp_drawK (id := 13) (mu := mu0) [(0, true), (2, true), (3, true), (5, true), (6, true), (7, true), (8, true), (10, true), (11, true)] [1, 4, 9, 12, 13, 14, 15] tab_ok mixedT (by decide +kernel) 7 rfl ?_
      refine dh 9 ?_ (h := by simp (disch := omega) [small_ifI]; with_reducible rfl)
      refine adr_nil ?_
      refine ag_two (i := 1) (j := 14) (by decide +kernel) (by decide) (goes_fn rfl rfl rfl rfl en25 (by simp) (sf25 (l := p) (own := o1) (by omega)) (by simp; rfl)) (goes_run (mu := mu0) tab_ok (by simp; with_reducible rfl)) ?_ ?_
      · refine ag_two (i := 4) (j := 14) (by decide +kernel) (by decide) (goes_fn rfl rfl rfl rfl en112 (by simp) (hB.u112 names o2 _ (by omega) (by omega)) (by simp; rfl)) (goes_run (mu := mu0) tab_ok (by simp; with_reducible rfl)) ?_ ?_
        · refine ag_two (i := 9) (j := 14) (by decide +kernel) (by decide) (goes_fn rfl rfl rfl rfl en25 (by simp) (sf25 (l := c.site) (own := .shut) (by rw [hs]; omega)) (by simp; rfl)) (goes_run (mu := mu0) tab_ok (by simp; with_reducible rfl)) ?_ ?_
          · refine ag_two (i := 12) (j := 14) (by decide +kernel) (by decide) (goes_fn rfl rfl rfl rfl en113 (by simp) (sf113 (l := names.tail) (own := .shut) (by simp; omega)) (by simp; rfl)) (goes_run (mu := mu0) tab_ok (by simp; with_reducible rfl)) ?_ ?_
            · refine ag_two (i := 13) (j := 14) (by decide +kernel) (by decide) (goes_run (mu := mu0) tab_ok (by simp; with_reducible rfl)) (goes_run (mu := mu0) tab_ok (by simp; with_reducible rfl)) ?_ ?_
              · refine ag_one (i := 14) (by decide +kernel) (by decide) (goes_run (mu := mu0) tab_ok (by simp; with_reducible rfl)) ?_
                refine ag_one (i := 15) (by decide +kernel) (by decide) (goes_run (mu := mu0) tab_ok (by simp; with_reducible rfl)) ?_
                exact aw_done ⟨rfl, sb⟩ (by decide +kernel)
              · refine ag_one (i := 13) (by decide +kernel) (by decide) (goes_run (mu := mu0) tab_ok (by simp; with_reducible rfl)) ?_
                refine ag_one (i := 15) (by decide +kernel) (by decide) (goes_run (mu := mu0) tab_ok (by simp; with_reducible rfl)) ?_
                exact aw_done ⟨rfl, sb⟩ (by decide +kernel)
            · refine ag_one (i := 12) (by decide +kernel) (by decide) (goes_fn rfl rfl rfl rfl en113 (by simp) (sf113 (l := names.tail) (own := .shut) (by simp; omega)) (by simp; rfl)) ?_
              refine ag_one (i := 13) (by decide +kernel) (by decide) (goes_run (mu := mu0) tab_ok (by simp; with_reducible rfl)) ?_
              refine ag_one (i := 15) (by decide +kernel) (by decide) (goes_run (mu := mu0) tab_ok (by simp; with_reducible rfl)) ?_
              exact aw_done ⟨rfl, sb⟩ (by decide +kernel)
          · refine ag_one (i := 9) (by decide +kernel) (by decide) (goes_fn rfl rfl rfl rfl en25 (by simp) (sf25 (l := c.site) (own := .shut) (by rw [hs]; omega)) (by simp; rfl)) ?_
            refine ag_one (i := 12) (by decide +kernel) (by decide) (goes_fn rfl rfl rfl rfl en113 (by simp) (sf113 (l := names.tail) (own := .shut) (by simp; omega)) (by simp; rfl)) ?_
            refine ag_one (i := 13) (by decide +kernel) (by decide) (goes_run (mu := mu0) tab_ok (by simp; with_reducible rfl)) ?_
            refine ag_one (i := 15) (by decide +kernel) (by decide) (goes_run (mu := mu0) tab_ok (by simp; with_reducible rfl)) ?_
            exact aw_done ⟨rfl, sb⟩ (by decide +kernel)
        · refine ag_one (i := 4) (by decide +kernel) (by decide) (goes_fn rfl rfl rfl rfl en112 (by simp) (hB.u112 names o2 _ (by omega) (by omega)) (by simp; rfl)) ?_
          refine ag_one (i := 9) (by decide +kernel) (by decide) (goes_fn rfl rfl rfl rfl en25 (by simp) (sf25 (l := c.site) (own := .shut) (by rw [hs]; omega)) (by simp; rfl)) ?_
          refine ag_one (i := 12) (by decide +kernel) (by decide) (goes_fn rfl rfl rfl rfl en113 (by simp) (sf113 (l := names.tail) (own := .shut) (by simp; omega)) (by simp; rfl)) ?_
          refine ag_one (i := 13) (by decide +kernel) (by decide) (goes_run (mu := mu0) tab_ok (by simp; with_reducible rfl)) ?_
          refine ag_one (i := 15) (by decide +kernel) (by decide) (goes_run (mu := mu0) tab_ok (by simp; with_reducible rfl)) ?_
          exact aw_done ⟨rfl, sb⟩ (by decide +kernel)
      · refine ag_one (i := 1) (by decide +kernel) (by decide) (goes_fn rfl rfl rfl rfl en25 (by simp) (sf25 (l := p) (own := o1) (by omega)) (by simp; rfl)) ?_
        refine ag_one (i := 4) (by decide +kernel) (by decide) (goes_fn rfl rfl rfl rfl en112 (by simp) (hB.u112 names o2 _ (by omega) (by omega)) (by simp; rfl)) ?_
        refine ag_one (i := 9) (by decide +kernel) (by decide) (goes_fn rfl rfl rfl rfl en25 (by simp) (sf25 (l := c.site) (own := .shut) (by rw [hs]; omega)) (by simp; rfl)) ?_
        refine ag_one (i := 12) (by decide +kernel) (by decide) (goes_fn rfl rfl rfl rfl en113 (by simp) (sf113 (l := names.tail) (own := .shut) (by simp; omega)) (by simp; rfl)) ?_
        refine ag_one (i := 13) (by decide +kernel) (by decide) (goes_run (mu := mu0) tab_ok (by simp; with_reducible rfl)) ?_
        refine ag_one (i := 15) (by decide +kernel) (by decide) (goes_run (mu := mu0) tab_ok (by simp; with_reducible rfl)) ?_
        exact aw_done ⟨rfl, sb⟩ (by decide +kernel)
end Go.Av
