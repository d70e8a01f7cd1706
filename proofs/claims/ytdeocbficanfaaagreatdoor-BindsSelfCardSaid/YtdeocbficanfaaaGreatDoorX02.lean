/-
  Go read by value: lemmas (part 2): A0, A1.
-/
import Derived.Calls
import Derived.Tactics
import Derived.LoopN
import Derived.Below
import Derived.Orders
import Derived.Laws.World
import Derived.Laws.Cells
import Derived.Laws.NewBlocks
import Derived.MapKept
set_option linter.unusedVariables false
set_option linter.unusedSimpArgs false
set_option linter.unusedSectionVars false
namespace Go.Av
inductive Own where
  | capped
  | tok (t : Nat)
  | shut
  deriving DecidableEq, Inhabited
inductive AV where
  | any
  | int (k : IntKind) (n : Int)
  | bool (b : Bool)
  | str (s : List UInt8)
  | nilp
  | ptr (cs : List AV)
  | ref (r off : Nat)
  | slnil
  | sl (sz : Nat) (es : List (List AV)) (own : Own)
  | agg (cs : List AV)
  | tuple (vs : List AV)
  | fn (f : FuncId) (caps : List AV)
  | nilf
  | mnil
  | mref (r : Nat)
  | mapv (ks : List (List UInt8)) (vs : List AV)
  | osl (r n : Nat)
  deriving Inhabited
inductive AObj where
  | cells (cs : List AV)
  | map (ks : List (List UInt8)) (vs : List AV)
  | iter (s : List UInt8) (pos : Nat)
  | miter (ks : List (List UInt8)) (vs : List AV) (left : List Nat) (last : Nat)
  | gone
  deriving Inhabited
structure Hp where
  objs : List AObj
  hi : List Nat
  deriving Inhabited
structure Gh where
  pub : Nat → Nat
  fro : Nat → Bool
  loc : Nat → Option Nat
  ver : Nat → Nat → Option (Nat × Nat × Nat × Nat)
def strV (s : List UInt8) : Value := .string ⟨s.toArray⟩
def KeysOf (es : Array MapEntry) (clock : Nat) (ks : List (List UInt8)) : Prop := es.toList.map (·.key) = ks.map strV ∧ MapKept.Stamped es clock
def OwnOK (g : Gh) (own : Own) (sz n b o cap : Nat) : Prop :=
  match own with
  | .capped => cap = n
  | .tok t => g.ver t n = some (b, o, cap, sz)
  | .shut => True
def Own.free : Own → Prop
  | .tok _ => False
  | _ => True
mutual
def VR (g : Gh) (w : World) : AV → Value → Prop
  | .any, _ => True
  | .int k n, v => v = .int k n
  | .bool b, v => v = .bool b
  | .str s, v => v = strV s
  | .nilp, v => v = .pointer none
  | .ptr cs, v => ∃ b o, v = .pointer (some ⟨b, o, none⟩) ∧ CR g w b o cs
  | .ref r k, v => ∃ b, g.loc r = some b ∧ v = .pointer (some ⟨b, k, none⟩)
  | .slnil, v => v = .slice none 0 0
  | .sl sz es own, v => (es = [] ∧ own.free ∧ v = .slice none 0 0) ∨ ∃ b o cap, v = .slice (some ⟨b, o, none⟩) es.length cap ∧ es.length ≤ cap ∧ OwnOK g own sz es.length b o cap ∧ ER g w b sz o es
  | .agg cs, v => ∃ vs : Array Value, v = .agg vs ∧ AR g w cs vs.toList
  | .tuple cs, v => ∃ vs : Array Value, v = .tuple vs ∧ AR g w cs vs.toList
  | .fn f cs, v => ∃ vs : Array Value, v = .func (.func f) #[] vs ∧ AR g w cs vs.toList
  | .nilf, v => v = .nilFunc
  | .mnil, v => v = .map none
  | .mref r, v => ∃ b, g.loc r = some b ∧ v = .map (some b)
  | .mapv ks cs, v => ∃ b es clock, v = .map (some b) ∧ g.fro b = true ∧ w.heap[b]? = some (.map es clock) ∧
      KeysOf es clock ks ∧ AR g w cs (es.toList.map (·.val))
  | .osl r n, v => ∃ b cap, v = .slice (some ⟨b, 0, none⟩) n cap ∧ g.loc r = some b ∧ n ≤ cap
def AR (g : Gh) (w : World) : List AV → List Value → Prop
  | [], vs => vs = []
  | c :: cs, vs => ∃ v vs', vs = v :: vs' ∧ VR g w c v ∧ AR g w cs vs'
def CR (g : Gh) (w : World) (b : Nat) : Nat → List AV → Prop
  | _, [] => True
  | o, c :: cs => (∃ v, w.cell? ⟨b, o, none⟩ = some v ∧ o < g.pub b ∧ VR g w c v) ∧ CR g w b (o + 1) cs
def ER (g : Gh) (w : World) (b sz : Nat) : Nat → List (List AV) → Prop
  | _, [] => True
  | o, e :: es => e.length = sz ∧ CR g w b o e ∧ ER g w b sz (o + sz) es
end
structure Ext (g : Gh) (w : World) (g' : Gh) (w' : World) : Prop where
  size : w.heap.size ≤ w'.heap.size
  pub : ∀ b, g.pub b ≤ g'.pub b
  cell : ∀ b o v, o < g.pub b → w.cell? ⟨b, o, none⟩ = some v → w'.cell? ⟨b, o, none⟩ = some v
  fro : ∀ b, g.fro b = true → g'.fro b = true
  froz : ∀ b, g.fro b = true → w'.heap[b]? = w.heap[b]?
  loc : ∀ r b, g.loc r = some b → g'.loc r = some b
  ver : ∀ t n x, g.ver t n = some x → g'.ver t n = some x
theorem Ext.refl (g : Gh) (w : World) : Ext g w g w :=
  ⟨Nat.le_refl _, fun _ => Nat.le_refl _, fun _ _ _ _ h => h, fun _ h => h, fun _ _ => rfl, fun _ _ h => h, fun _ _ _ h => h⟩
theorem Ext.trans {g w g' w' g'' w''} (h : Ext g w g' w') (k : Ext g' w' g'' w'') : Ext g w g'' w'' :=
  ⟨Nat.le_trans h.size k.size, fun b => Nat.le_trans (h.pub b) (k.pub b),
   fun b o v ho hc => k.cell b o v (Nat.lt_of_lt_of_le ho (h.pub b)) (h.cell b o v ho hc),
   fun b hb => k.fro b (h.fro b hb), fun b hb => (k.froz b (h.fro b hb)).trans (h.froz b hb),
   fun r b hb => k.loc r b (h.loc r b hb), fun t n x hx => k.ver t n x (h.ver t n x hx)⟩
theorem OwnOK.mono {g w g' w'} (h : Ext g w g' w') {own sz n b o cap} (k : OwnOK g own sz n b o cap) : OwnOK g' own sz n b o cap := by
  cases own with
  | capped => exact k
  | tok t => exact h.ver _ _ _ k
  | shut => trivial
mutual
theorem VR.mono {g w g' w'} (h : Ext g w g' w') : ∀ (a : AV) (v : Value), VR g w a v → VR g' w' a v
  | .any, _, _ => trivial
  | .int _ _, _, k => k
  | .bool _, _, k => k
  | .str _, _, k => k
  | .nilp, _, k => k
  | .ptr cs, _, ⟨b, o, e, k⟩ => ⟨b, o, e, CR.mono h b cs o k⟩
  | .ref _ _, _, ⟨b, k, e⟩ => ⟨b, h.loc _ _ k, e⟩
  | .slnil, _, k => k
  | .sl sz es _, _, .inl k => .inl k
  | .sl sz es _, _, .inr ⟨b, o, cap, e, hl, ho, k⟩ => .inr ⟨b, o, cap, e, hl, ho.mono h, ER.mono h b sz es o k⟩
  | .agg cs, _, ⟨vs, e, k⟩ => ⟨vs, e, AR.mono h cs _ k⟩
  | .tuple cs, _, ⟨vs, e, k⟩ => ⟨vs, e, AR.mono h cs _ k⟩
  | .fn _ cs, _, ⟨vs, e, k⟩ => ⟨vs, e, AR.mono h cs _ k⟩
  | .nilf, _, k => k
  | .mnil, _, k => k
  | .mref _, _, ⟨b, k, e⟩ => ⟨b, h.loc _ _ k, e⟩
  | .mapv _ cs, _, ⟨b, es, clock, e, hf, hb, hk, k⟩ => ⟨b, es, clock, e, h.fro _ hf, (h.froz _ hf).trans hb, hk, AR.mono h cs _ k⟩
  | .osl _ _, _, ⟨b, cap, e, k, hl⟩ => ⟨b, cap, e, h.loc _ _ k, hl⟩
theorem AR.mono {g w g' w'} (h : Ext g w g' w') : ∀ (cs : List AV) (vs : List Value), AR g w cs vs → AR g' w' cs vs
  | [], _, k => k
  | c :: cs, _, ⟨v, vs', e, k1, k2⟩ => ⟨v, vs', e, VR.mono h c v k1, AR.mono h cs vs' k2⟩
theorem CR.mono {g w g' w'} (h : Ext g w g' w') (b : Nat) : ∀ (cs : List AV) (o : Nat), CR g w b o cs → CR g' w' b o cs
  | [], _, _ => trivial
  | c :: cs, o, ⟨⟨v, hc, ho, k1⟩, k2⟩ => ⟨⟨v, h.cell b o v ho hc, Nat.lt_of_lt_of_le ho (h.pub b), VR.mono h c v k1⟩, CR.mono h b cs (o + 1) k2⟩
theorem ER.mono {g w g' w'} (h : Ext g w g' w') (b sz : Nat) : ∀ (es : List (List AV)) (o : Nat), ER g w b sz o es → ER g' w' b sz o es
  | [], _, _ => trivial
  | e :: es, o, ⟨hl, k1, k2⟩ => ⟨hl, CR.mono h b e o k1, ER.mono h b sz es (o + sz) k2⟩
end
end Go.Av
namespace Go.Av
def OR (g : Gh) (w : World) (r : Nat) : AObj → Prop
  | .cells cs => ∃ b vs T, g.loc r = some b ∧ g.pub b = 0 ∧ g.fro b = false ∧ w.heap[b]? = some (.cells vs T (0, 0)) ∧ AR g w cs vs.toList
  | .map ks cs => ∃ b es clock, g.loc r = some b ∧ g.pub b = 0 ∧ g.fro b = false ∧ w.heap[b]? = some (.map es clock) ∧
      KeysOf es clock ks ∧ AR g w cs (es.toList.map (·.val))
  | .iter s p => ∃ b, g.loc r = some b ∧ g.pub b = 0 ∧ g.fro b = false ∧ w.heap[b]? = some (.stringIter ⟨s.toArray⟩ p)
  | .miter ks cs left last => ∃ b bm es clock seen, g.loc r = some b ∧ g.pub b = 0 ∧ g.fro b = false ∧ w.heap[b]? = some (.mapIter (some bm) clock seen clock) ∧ g.fro bm = true ∧ w.heap[bm]? = some (.map es clock) ∧
      KeysOf es clock ks ∧ AR g w cs (es.toList.map (·.val)) ∧ (∀ j ∈ left, j < es.size) ∧ (∀ j e, es.toList[j]? = some e → (j ∈ left ↔ seen.contains e.born = false)) ∧ (∀ e, es.toList[last]? = some e → seen.back? = some e.born)
  | .gone => True
def TokOK (g : Gh) (w : World) (t n : Nat) : Prop :=
  ∃ b o cap sz cs T, g.ver t n = some (b, o, cap, sz) ∧ n ≤ cap ∧ 0 < sz ∧ g.pub b = o + n * sz ∧
    w.heap[b]? = some (.cells cs T (0, 0)) ∧ cs.size = o + cap * sz ∧ (∀ r, g.loc r ≠ some b)
structure WInv (W0 : World) (g : Gh) (H : Hp) (w : World) : Prop where
  base : ∀ b, b < W0.heap.size → w.heap[b]? = W0.heap[b]?
  size : W0.heap.size ≤ w.heap.size
  os : w.os = W0.os
  out : w.output = W0.output
  tape : w.tape = W0.tape
  pubOld : ∀ b, b < W0.heap.size → g.pub b = 0
  pubNew : ∀ b, w.heap.size ≤ b → g.pub b = 0
  fro : ∀ b, g.fro b = true → W0.heap.size ≤ b ∧ b < w.heap.size ∧ ∃ es cl, w.heap[b]? = some (.map es cl)
  locIn : ∀ r b, g.loc r = some b → W0.heap.size ≤ b ∧ b < w.heap.size
  locNew : ∀ r, H.objs.length ≤ r → g.loc r = none
  inj : ∀ r r' b, g.loc r = some b → g.loc r' = some b → r = r'
  obj : ∀ r o, H.objs[r]? = some o → OR g w r o
  verIn : ∀ t n b x, g.ver t n = some (b, x) → W0.heap.size ≤ b ∧ b < w.heap.size
  verNew : ∀ t n, H.hi.length ≤ t → g.ver t n = none
  verHi : ∀ t m n, H.hi[t]? = some m → m < n → g.ver t n = none
  tok : ∀ t n, H.hi[t]? = some n → TokOK g w t n
  tokInj : ∀ t t' n n' b x x', H.hi[t]? = some n → H.hi[t']? = some n' → g.ver t n = some (b, x) → g.ver t' n' = some (b, x') → t = t'
structure St where
  n : Nat
  env : List (Nat × AV)
  H : Hp
def look : List (Nat × AV) → Nat → AV
  | [], _ => .any
  | (k, v) :: e, t => if t = k then v else look e t
structure Rel (W0 : World) (g : Gh) (w : World) (a : Act) (st : St) : Prop where
  inv : WInv W0 g st.H w
  defers : a.defers = []
  size : a.tmps.size = st.n
  fr : ∀ t, VR g w (look st.env t) (a.tmps.getD t undef)
def absV : Value → AV
  | .int k n => .int k n
  | .bool b => .bool b
  | .string s => .str s.data.toList
  | .pointer none => .nilp
  | .slice none 0 0 => .slnil
  | .map none => .mnil
  | .nilFunc => .nilf
  | _ => .any
def St.eval (st : St) : Operand → AV
  | .tmp t => look st.env t
  | .const v => absV v
  | .func f => .fn f []
  | .global _ => .any
def St.put (st : St) (dst : Option Tmp) (v : AV) : St :=
  match dst with
  | some d => if d < st.n then { st with env := (d, v) :: st.env } else st
  | none => st
theorem AR.nil {g w} : AR g w [] [] := rfl
theorem AR.cons {g w c cs v vs} (h : VR g w c v) (k : AR g w cs vs) : AR g w (c :: cs) (v :: vs) := ⟨v, vs, rfl, h, k⟩
theorem AR.length {g w} : ∀ {cs : List AV} {vs : List Value}, AR g w cs vs → vs.length = cs.length
  | [], _, h => by cases h; rfl
  | c :: cs, _, ⟨v, vs', e, _, k⟩ => by subst e; simp [AR.length k]
theorem AR.get {g w} : ∀ {cs : List AV} {vs : List Value} (i : Nat) (d : AV) (e : Value), AR g w cs vs → VR g w d e → VR g w (cs.getD i d) (vs.getD i e)
  | [], _, i, _, _, h, hd => by cases h; simpa using hd
  | c :: cs, _, 0, _, _, ⟨v, vs', e, h, _⟩, _ => by subst e; simpa using h
  | c :: cs, _, i + 1, _, _, ⟨v, vs', e, _, k⟩, hd => by subst e; simpa using AR.get i _ _ k hd
theorem AR.set {g w} : ∀ {cs : List AV} {vs : List Value} (i : Nat) {c : AV} {v : Value}, AR g w cs vs → VR g w c v → AR g w (cs.set i c) (vs.set i v)
  | [], _, i, _, _, h, _ => by cases h; exact AR.nil
  | c :: cs, _, 0, _, _, ⟨v, vs', e, h, k⟩, hd => by subst e; exact AR.cons hd k
  | c :: cs, _, i + 1, _, _, ⟨v, vs', e, h, k⟩, hd => by subst e; exact AR.cons h (AR.set i k hd)
theorem AR.append {g w} : ∀ {cs ds : List AV} {vs us : List Value}, AR g w cs vs → AR g w ds us → AR g w (cs ++ ds) (vs ++ us)
  | [], _, _, _, h, k => by cases h; exact k
  | _ :: _, _, _, _, ⟨v, vs', e, h, h2⟩, k => by subst e; exact AR.cons h (AR.append h2 k)
theorem AR.replicate {g w} (n : Nat) {c v} (h : VR g w c v) : AR g w (List.replicate n c) (List.replicate n v) := by
  induction n with
  | zero => exact AR.nil
  | succ n ih => exact AR.cons h ih
theorem AR.drop {g w} : ∀ {cs : List AV} {vs : List Value} (i : Nat), AR g w cs vs → AR g w (cs.drop i) (vs.drop i)
  | [], _, i, h => by cases h; simpa using AR.nil
  | _ :: _, _, 0, h => h
  | c :: cs, _, i + 1, ⟨v, vs', e, h, k⟩ => by subst e; exact AR.drop i k
theorem AR.take {g w} : ∀ {cs : List AV} {vs : List Value} (i : Nat), AR g w cs vs → AR g w (cs.take i) (vs.take i)
  | [], _, i, h => by cases h; simpa using AR.nil
  | _ :: _, _, 0, h => AR.nil
  | c :: cs, _, i + 1, ⟨v, vs', e, h, k⟩ => by subst e; exact AR.cons h (AR.take i k)
theorem VR.undef {g w} : VR g w (.tuple []) undef := ⟨#[], rfl, AR.nil⟩
theorem VR.abs {g w} (v : Value) : VR g w (absV v) v := by
  unfold absV
  split <;> simp [VR, strV]
theorem Rel.eval {W0 g w a st} (h : Rel W0 g w a st) (x : Operand) : VR g w (st.eval x) (a.eval x) := by
  cases x with
  | tmp t => exact h.fr t
  | const v => exact VR.abs v
  | global gi => trivial
  | func f => exact ⟨#[], rfl, AR.nil⟩
theorem Rel.put {W0 g w a st c v} (h : Rel W0 g w a st) (hv : VR g w c v) (dst : Option Tmp) : Rel W0 g w (a.put dst v) (st.put dst c) := by
  cases dst with
  | none => exact h
  | some d =>
    simp only [St.put, Act.put]
    split
    · rename_i hd
      refine ⟨h.inv, h.defers, by simp [h.size], fun t => ?_⟩
      simp only [look]
      split
      · rename_i ht
        subst ht
        simpa [Array.getD_eq_getD_getElem?, Array.getElem?_setIfInBounds, h.size, hd] using hv
      · rename_i ht
        have := h.fr t
        simpa [Array.getD_eq_getD_getElem?, Array.getElem?_setIfInBounds_ne (Ne.symm ht)] using this
    · rename_i hd
      have : a.tmps.setIfInBounds d v = a.tmps := by
        apply Array.setIfInBounds_eq_of_size_le
        exact Nat.le_trans (Nat.le_of_eq h.size) (Nat.le_of_not_lt hd)
      rw [this]
      exact h
theorem Rel.weak {W0 g w a} {st st' : St} (h : Rel W0 g w a st) (hn : st'.n = st.n) (hH : st'.H = st.H) (he : ∀ t, look st'.env t = .any ∨ look st'.env t = look st.env t) : Rel W0 g w a st' := by
  refine ⟨hH ▸ h.inv, h.defers, hn ▸ h.size, fun t => ?_⟩
  rcases he t with e | e
  · rw [e]; trivial
  · rw [e]; exact h.fr t
theorem Rel.step {W0 g w a st g' w' H'} (h : Rel W0 g w a st) (e : Ext g w g' w') (i : WInv W0 g' H' w') : Rel W0 g' w' a { st with H := H' } :=
  ⟨i, h.defers, h.size, fun t => VR.mono e _ _ (h.fr t)⟩
def Post (W0 : World) (Q : Exit → St → Prop) (g : Gh) (w : World) : Exit → Act → World → Prop :=
  fun e a' w' => ∃ g' st', Q e st' ∧ Ext g w g' w' ∧ Rel W0 g' w' a' st'
theorem Post.ext {W0 Q g w g' w'} (h : Ext g w g' w') {e a' w''} (k : Post W0 Q g' w' e a' w'') : Post W0 Q g w e a' w'' :=
  let ⟨g2, st, q, e2, r⟩ := k; ⟨g2, st, q, h.trans e2, r⟩
theorem Post.mono {W0 Q Q' g w} (h : ∀ e st, Q e st → Q' e st) {e a' w'} (k : Post W0 Q g w e a' w') : Post W0 Q' g w e a' w' :=
  let ⟨g2, st, q, r⟩ := k; ⟨g2, st, h _ _ q, r⟩
def AWP (P : Program) (W0 : World) (c : Code) (st : St) (Q : Exit → St → Prop) : Prop :=
  ∀ g w a, Rel W0 g w a st → c.wp P (Post W0 Q g w) a w
def thenA (K : St → Prop) (Q : Exit → St → Prop) : Exit → St → Prop
  | .normal, st => K st
  | e, st => Q e st
def inBlockA (id : Nat) (Q : Exit → St → Prop) : Exit → St → Prop
  | .exit i, st => if i = id then Q .normal st else Q (.exit i) st
  | e, st => Q e st
section
variable {P : Program} {W0 : World} {st : St} {Q : Exit → St → Prop}
theorem AWP.mono {c Q'} (h : ∀ e st, Q e st → Q' e st) (k : AWP P W0 c st Q) : AWP P W0 c st Q' :=
  fun g w a r => wp_mono (k g w a r) fun _ _ _ q => q.mono h
theorem awp_skip (h : Q .normal st) : AWP P W0 .skip st Q :=
  fun g w _ r => wp_skip ⟨g, st, h, .refl _ _, r⟩
theorem awp_exit {id} (h : Q (.exit id) st) : AWP P W0 (.exit id) st Q :=
  fun g w _ r => wp_exit ⟨g, st, h, .refl _ _, r⟩
theorem awp_ret (h : Q .ret st) : AWP P W0 .ret st Q :=
  fun g w _ r => wp_ret ⟨g, st, h, .refl _ _, r⟩
theorem awp_seq {x y} (h : AWP P W0 x st (thenA (fun st => AWP P W0 y st Q) Q)) : AWP P W0 (.seq x y) st Q := by
  intro g w a r
  refine wp_seq (wp_mono (h g w a r) ?_)
  rintro e a' w' ⟨g', st', q, ext, r'⟩
  cases e with
  | normal => exact wp_mono (q g' w' a' r') fun _ _ _ k => k.ext ext
  | exit id => exact ⟨g', st', q, ext, r'⟩
  | goto l => exact ⟨g', st', q, ext, r'⟩
  | ret => exact ⟨g', st', q, ext, r'⟩
  | panic ch => exact ⟨g', st', q, ext, r'⟩
  | outgrown => exact ⟨g', st', q, ext, r'⟩
theorem awp_block {id c} (h : AWP P W0 c st (inBlockA id Q)) : AWP P W0 (.block id c) st Q := by
  intro g w a r
  refine wp_block (wp_mono (h g w a r) ?_)
  rintro e a' w' ⟨g', st', q, ext, r'⟩
  cases e with
  | normal => exact ⟨g', st', q, ext, r'⟩
  | exit i =>
    simp only [inBlockA] at q
    simp only [Exit.inBlock]
    split
    · rename_i h; rw [if_pos h] at q; exact ⟨g', st', q, ext, r'⟩
    · rename_i h; rw [if_neg h] at q; exact ⟨g', st', q, ext, r'⟩
  | goto l => exact ⟨g', st', q, ext, r'⟩
  | ret => exact ⟨g', st', q, ext, r'⟩
  | panic ch => exact ⟨g', st', q, ext, r'⟩
  | outgrown => exact ⟨g', st', q, ext, r'⟩
theorem awp_cond {c x y b} (hc : st.eval c = .bool b) (h : AWP P W0 (if b then x else y) st Q) : AWP P W0 (.cond c x y) st Q := by
  intro g w a r
  have hv := r.eval c
  rw [hc] at hv
  exact wp_cond hv (h g w a r)
def ARounds (P : Program) (W0 : World) (c : Code) (Q : Exit → St → Prop) : Nat → St → Prop
  | 0, _ => False
  | n + 1, st => AWP P W0 c st (thenA (ARounds P W0 c Q n) Q)
theorem awp_loop {c} (n : Nat) (h : ARounds P W0 c Q n st) : AWP P W0 (.loop c) st Q := by
  intro g w a r
  refine wp_loop_rounds n ?_
  have key : ∀ n (st : St) g0 w0 g w a, Ext g0 w0 g w → Rel W0 g w a st → ARounds P W0 c Q n st → Code.rounds P c (Post W0 Q g0 w0) n a w := by
    intro n
    induction n with
    | zero => intro _ _ _ _ _ _ _ _ h; exact h.elim
    | succ n ih =>
      intro st g0 w0 g w a e0 r h
      rw [rounds_succ]
      refine wp_mono (h g w a r) ?_
      rintro e a' w' ⟨g', st', q, ext, r'⟩
      cases e with
      | normal => exact ih st' g0 w0 g' w' a' (e0.trans ext) r' q
      | exit id => exact ⟨g', st', q, e0.trans ext, r'⟩
      | goto l => exact ⟨g', st', q, e0.trans ext, r'⟩
      | ret => exact ⟨g', st', q, e0.trans ext, r'⟩
      | panic ch => exact ⟨g', st', q, e0.trans ext, r'⟩
      | outgrown => exact ⟨g', st', q, e0.trans ext, r'⟩
  exact key n st g w g w a (.refl _ _) r h
def SF (P : Program) (W0 : World) (f : FuncId) (args : List AV) (H : Hp) (Q : AV → Hp → Prop) : Prop :=
  ∀ g w (vs : Array Value), WInv W0 g H w → AR g w args vs.toList →
    Calls P f vs w fun e w' => ∃ v g' r H', e = .returned v ∧ Q r H' ∧ Ext g w g' w' ∧ WInv W0 g' H' w' ∧ VR g' w' r v
theorem SF.mono {f args H} {Q Q' : AV → Hp → Prop} (h : SF P W0 f args H Q) (k : ∀ r H', Q r H' → Q' r H') : SF P W0 f args H Q' :=
  fun g w vs i r => (h g w vs i r).mono fun _ _ ⟨v, g', x, H', e, q, rest⟩ => ⟨v, g', x, H', e, k _ _ q, rest⟩
def resA (fn : Func) (st : St) : Option AV :=
  match fn.results.toList with
  | [.tmp t] => some (look st.env t)
  | [] => some (.tuple [])
  | [.tmp t, .tmp u] => some (.tuple [look st.env t, look st.env u])
  | [.tmp t, .tmp u, .tmp v] => some (.tuple [look st.env t, look st.env u, look st.env v])
  | _ => none
def bodyQ (fn : Func) (Q : AV → Hp → Prop) : Exit → St → Prop
  | .normal, st | .ret, st => ∃ r, resA fn st = some r ∧ Q r st.H
  | _, _ => False
theorem Rel.slot {W0 g w a st} (h : Rel W0 g w a st) (t : Nat) : VR g w (look st.env t) (a.tmps.getD t undef) := h.fr t
theorem results_rel {W0 g w a} {fn : Func} {st : St} {r : AV} (h : Rel W0 g w a st) (hr : resA fn st = some r) :
    ∃ v, (results fn a.tmps).run P w = .ok v w ∧ VR g w r v := by
  unfold resA at hr
  split at hr
  · rename_i t e
    have e' : fn.results = #[.tmp t] := by rw [← Array.toArray_toList (xs := fn.results), e]
    cases hr
    exact ⟨_, by simp [results, e'], h.slot t⟩
  · rename_i e
    have e' : fn.results = #[] := by rw [← Array.toArray_toList (xs := fn.results), e]
    cases hr
    exact ⟨_, by simp [results, e'], ⟨#[], rfl, AR.nil⟩⟩
  · rename_i t u e
    have e' : fn.results = #[.tmp t, .tmp u] := by rw [← Array.toArray_toList (xs := fn.results), e]
    cases hr
    exact ⟨_, by simp [results, e'], ⟨_, rfl, AR.cons (h.slot t) (AR.cons (h.slot u) AR.nil)⟩⟩
  · rename_i t u v e
    have e' : fn.results = #[.tmp t, .tmp u, .tmp v] := by rw [← Array.toArray_toList (xs := fn.results), e]
    cases hr
    exact ⟨_, by simp [results, e'], ⟨_, rfl, AR.cons (h.slot t) (AR.cons (h.slot u) (AR.cons (h.slot v) AR.nil))⟩⟩
  · cases hr
def envOf : Nat → List AV → List (Nat × AV)
  | _, [] => []
  | i, a :: as => (i, a) :: envOf (i + 1) as
theorem envOf_look {g w} : ∀ {as : List AV} {vs : List Value} (i t : Nat), AR g w as vs → ∀ us : List Value, VR g w (look (envOf i as) (i + t)) ((vs ++ us).getD t undef)
  | [], _, _, _, _, _ => trivial
  | a :: as, _, i, t, ⟨v, vs', e, h1, h2⟩, us => by
    subst e
    cases t with
    | zero => simpa [envOf, look] using h1
    | succ t =>
      have := envOf_look (i + 1) t h2 us
      rw [show i + 1 + t = i + (t + 1) from by omega] at this
      simpa [envOf, look] using this
theorem sf_of_body {f : FuncId} {fn : Func} {c : Code} {args : List AV} {H : Hp} {Q : AV → Hp → Prop}
    (hf : P.funcs[f]? = some fn) (hb : fn.body = some c) (hn : args.length ≤ fn.ntmps)
    (h : AWP P W0 c ⟨fn.ntmps, envOf 0 args, H⟩ (bodyQ fn Q)) : SF P W0 f args H Q := by
  intro g w vs inv hargs
  have hlen : vs.size = args.length := by rw [← Array.length_toList]; exact hargs.length
  refine calls_of_wp hf hb (wp_mono (h g w _ ⟨inv, rfl, ?_, fun t => ?_⟩) ?_)
  · simp; omega
  · have := envOf_look 0 t hargs (List.replicate (fn.ntmps - vs.size) undef)
    simpa [Array.getD_eq_getD_getElem?, ← Array.getElem?_toList, List.getD_eq_getElem?_getD] using this
  · rintro e a' w' ⟨g', st', q, ext, r'⟩
    cases e with
    | normal =>
      obtain ⟨r, hr, hq⟩ := q
      obtain ⟨v, hv, hvr⟩ := results_rel r' hr
      exact ⟨r'.defers, v, hv, v, g', r, st'.H, rfl, hq, ext, r'.inv, hvr⟩
    | ret =>
      obtain ⟨r, hr, hq⟩ := q
      obtain ⟨v, hv, hvr⟩ := results_rel r' hr
      exact ⟨r'.defers, v, hv, v, g', r, st'.H, rfl, hq, ext, r'.inv, hvr⟩
    | exit id => exact q.elim
    | goto l => exact q.elim
    | panic ch => exact q.elim
    | outgrown => exact q.elim
end
end Go.Av
