/-
  Go read by value: lemmas (part 3): A2.
-/
import Derived.Laws.Rows
import Derived.Test.YtdeocbficanfaaaGreatDoorX02
set_option linter.unusedVariables false
set_option linter.unusedSimpArgs false
set_option linter.unusedSectionVars false
namespace Go.Av
theorem heap_push_old {w : World} {o : Obj} {b : Nat} (h : b < w.heap.size) : (w.alloc o).heap[b]? = w.heap[b]? := heap_alloc_old w o b h
theorem heap_push_new {w : World} {o : Obj} : (w.alloc o).heap[w.heap.size]? = some o := heap_alloc_new w o
theorem size_alloc {w : World} {o : Obj} : (w.alloc o).heap.size = w.heap.size + 1 := by simp
theorem cell_heap {w w' : World} {b o : Nat} (h : w'.heap[b]? = w.heap[b]?) : w'.cell? ⟨b, o, none⟩ = w.cell? ⟨b, o, none⟩ := by
  simp [World.cell?, h]
theorem cell_lt {w : World} {b o v} (h : w.cell? ⟨b, o, none⟩ = some v) : b < w.heap.size := block_lt_of_cell h
theorem cell_row {w : World} {b o : Nat} {cs : Array Value} {T fr} (h : w.heap[b]? = some (.cells cs T fr)) : w.cell? ⟨b, o, none⟩ = cs[o]? := by
  simp [World.cell?, h]
theorem heap_some_lt {w : World} {b : Nat} {x : Obj} (h : w.heap[b]? = some x) : b < w.heap.size := by
  rcases Nat.lt_or_ge b w.heap.size with k | k
  · exact k
  · simp [Array.getElem?_eq_none k] at h
theorem OR.keep {g w g' w' r o} (h : OR g w r o) (e : Ext g w g' w')
    (hb : ∀ b, g.loc r = some b → w'.heap[b]? = w.heap[b]? ∧ (g.pub b = 0 → g'.pub b = 0) ∧ (g.fro b = false → g'.fro b = false)) : OR g' w' r o := by
  cases o with
  | cells cs =>
    obtain ⟨b, vs, T, hl, hp, hf, hh, k⟩ := h
    exact ⟨b, vs, T, e.loc _ _ hl, (hb b hl).2.1 hp, (hb b hl).2.2 hf, (hb b hl).1.trans hh, AR.mono e _ _ k⟩
  | map ks cs =>
    obtain ⟨b, es, cl, hl, hp, hf, hh, hk, k⟩ := h
    exact ⟨b, es, cl, e.loc _ _ hl, (hb b hl).2.1 hp, (hb b hl).2.2 hf, (hb b hl).1.trans hh, hk, AR.mono e _ _ k⟩
  | iter s p =>
    obtain ⟨b, hl, hp, hf, hh⟩ := h
    exact ⟨b, e.loc _ _ hl, (hb b hl).2.1 hp, (hb b hl).2.2 hf, (hb b hl).1.trans hh⟩
  | miter ks cs left last =>
    obtain ⟨b, bm, es, cl, seen, hl, hp, hf, hh, hfm, hm, hk, k, h1, h2, h3⟩ := h
    exact ⟨b, bm, es, cl, seen, e.loc _ _ hl, (hb b hl).2.1 hp, (hb b hl).2.2 hf, (hb b hl).1.trans hh, e.fro _ hfm, (e.froz _ hfm).trans hm, hk, AR.mono e _ _ k, h1, h2, h3⟩
  | gone => trivial
theorem TokOK.keep {g w g' w' t n} (h : TokOK g w t n) (e : Ext g w g' w')
    (hb : ∀ b x, g.ver t n = some (b, x) → w'.heap[b]? = w.heap[b]? ∧ g'.pub b = g.pub b ∧ ∀ r, g.loc r ≠ some b → g'.loc r ≠ some b) : TokOK g' w' t n := by
  obtain ⟨b, o, cap, sz, cs, T, hv, hn, hs, hp, hh, hc, hl⟩ := h
  obtain ⟨k1, k2, k3⟩ := hb b _ hv
  exact ⟨b, o, cap, sz, cs, T, e.ver _ _ _ hv, hn, hs, k2.trans hp, k1.trans hh, hc, fun r => k3 r (hl r)⟩
theorem WInv.drawn {W0 g H w} (h : WInv W0 g H w) (n : Nat) : WInv W0 g H { w with drawn := n } ∧ Ext g w g { w with drawn := n } := by
  have e : Ext g w g { w with drawn := n } := ⟨Nat.le_refl _, fun _ => Nat.le_refl _, fun _ _ _ _ h => h, fun _ h => h, fun _ _ => rfl, fun _ _ h => h, fun _ _ _ h => h⟩
  refine ⟨⟨h.base, h.size, h.os, h.out, h.tape, h.pubOld, h.pubNew, h.fro, h.locIn, h.locNew, h.inj, fun r o ho => (h.obj r o ho).keep e fun b _ => ⟨rfl, id, id⟩, h.verIn, h.verNew, h.verHi, fun t n hn => (h.tok t n hn).keep e fun b x _ => ⟨rfl, rfl, fun _ => id⟩, h.tokInj⟩, e⟩
def Gh.publish (g : Gh) (b n : Nat) : Gh := { g with pub := fun x => if x = b then n else g.pub x }
def Gh.lay (g : Gh) (r b : Nat) : Gh := { g with loc := fun x => if x = r then some b else g.loc x }
theorem WInv.freshFro {W0 g H w} (h : WInv W0 g H w) : g.fro w.heap.size = false := by
  cases hf : g.fro w.heap.size with
  | false => rfl
  | true => have := (h.fro _ hf).2.1; omega
theorem WInv.made {W0 g H w} (h : WInv W0 g H w) (o : Obj) (n : Nat) : WInv W0 (g.publish w.heap.size n) H (w.alloc o) ∧ Ext g w (g.publish w.heap.size n) (w.alloc o) := by
  have e : Ext g w (g.publish w.heap.size n) (w.alloc o) := by
    refine ⟨by simp, fun b => ?_, fun b off v _ hc => ?_, fun _ h => h, fun b hb => heap_push_old (h.fro b hb).2.1, fun _ _ h => h, fun _ _ _ h => h⟩
    · simp only [Gh.publish]
      split
      · rename_i hb; subst hb; rw [h.pubNew _ (Nat.le_refl _)]; exact Nat.zero_le _
      · exact Nat.le_refl _
    · rw [cell_heap (heap_push_old (cell_lt hc))]; exact hc
  have old : ∀ b, b < w.heap.size → (g.publish w.heap.size n).pub b = g.pub b := fun b hb => by simp [Gh.publish, Nat.ne_of_lt hb]
  refine ⟨⟨fun b hb => ?_, ?_, h.os, h.out, h.tape, fun b hb => ?_, fun b hb => ?_, fun b hb => ?_, fun r b hb => ?_, h.locNew, h.inj, fun r x hx => ?_, fun t m b x hv => ?_, h.verNew, h.verHi, fun t m hm => ?_, h.tokInj⟩, e⟩
  · rw [heap_push_old (Nat.lt_of_lt_of_le hb h.size)]; exact h.base b hb
  · simp only [size_alloc]; exact Nat.le_succ_of_le h.size
  · rw [old b (Nat.lt_of_lt_of_le hb h.size)]; exact h.pubOld b hb
  · simp only [size_alloc] at hb
    have : b ≠ w.heap.size := by omega
    simp only [Gh.publish, if_neg this]; exact h.pubNew b (by omega)
  · obtain ⟨h1, h2, es, cl, h3⟩ := h.fro b hb
    exact ⟨h1, by simp only [size_alloc]; omega, es, cl, (heap_push_old h2).trans h3⟩
  · have := h.locIn r b hb; simp only [size_alloc]; omega
  · refine (h.obj r x hx).keep e fun b hb => ?_
    have hlt := (h.locIn r b hb).2
    exact ⟨heap_push_old hlt, fun hp => (old b hlt).trans hp, id⟩
  · have := h.verIn t m b x hv; simp only [size_alloc]; omega
  · refine (h.tok t m hm).keep e fun b x hv => ?_
    have hlt := (h.verIn t m b x hv).2
    exact ⟨heap_push_old hlt, old b hlt, fun _ => id⟩
theorem WInv.object {W0 g H w} (h : WInv W0 g H w) (o : Obj) (x : AObj) (hx : OR (g.lay H.objs.length w.heap.size) (w.alloc o) H.objs.length x) :
    WInv W0 (g.lay H.objs.length w.heap.size) { H with objs := H.objs ++ [x] } (w.alloc o) ∧ Ext g w (g.lay H.objs.length w.heap.size) (w.alloc o) := by
  have ln := h.locNew H.objs.length (Nat.le_refl _)
  have keeploc : ∀ r b, g.loc r = some b → (g.lay H.objs.length w.heap.size).loc r = some b := fun r b hb => by
    have : r ≠ H.objs.length := fun e => by subst e; rw [ln] at hb; cases hb
    simp [Gh.lay, this, hb]
  have e : Ext g w (g.lay H.objs.length w.heap.size) (w.alloc o) := by
    refine ⟨by simp, fun b => Nat.le_refl _, fun b off v _ hc => ?_, fun _ h => h, fun b hb => heap_push_old (h.fro b hb).2.1, keeploc, fun _ _ _ h => h⟩
    rw [cell_heap (heap_push_old (cell_lt hc))]; exact hc
  refine ⟨⟨fun b hb => ?_, ?_, h.os, h.out, h.tape, h.pubOld, fun b hb => ?_, fun b hb => ?_, fun r b hb => ?_, fun r hr => ?_, fun r r' b hr hr' => ?_, fun r y hy => ?_, fun t m b x hv => ?_, h.verNew, h.verHi, fun t m hm => ?_, h.tokInj⟩, e⟩
  · rw [heap_push_old (Nat.lt_of_lt_of_le hb h.size)]; exact h.base b hb
  · simp only [size_alloc]; exact Nat.le_succ_of_le h.size
  · simp only [size_alloc] at hb; exact h.pubNew b (by omega)
  · obtain ⟨h1, h2, es, cl, h3⟩ := h.fro b hb
    exact ⟨h1, by simp only [size_alloc]; omega, es, cl, (heap_push_old h2).trans h3⟩
  · simp only [Gh.lay] at hb
    split at hb
    · cases hb; simp only [size_alloc]; exact ⟨h.size, by omega⟩
    · have := h.locIn r b hb; simp only [size_alloc]; omega
  · simp only [List.length_append, List.length_singleton] at hr
    have : r ≠ H.objs.length := by omega
    simp only [Gh.lay, if_neg this]; exact h.locNew r (by omega)
  · simp only [Gh.lay] at hr hr'
    split at hr <;> split at hr'
    · omega
    · cases hr; have := h.locIn _ _ hr'; omega
    · cases hr'; have := h.locIn _ _ hr; omega
    · exact h.inj r r' b hr hr'
  · by_cases hr : r < H.objs.length
    · rw [List.getElem?_append_left hr] at hy
      refine (h.obj r y hy).keep e fun b hb => ⟨heap_push_old (h.locIn r b hb).2, id, id⟩
    · rw [List.getElem?_append_right (by omega)] at hy
      have : r = H.objs.length := by
        rcases Nat.lt_or_ge (r - H.objs.length) 1 with k | k
        · omega
        · simp [List.getElem?_eq_none (l := [x]) (i := r - H.objs.length) (by simpa using k)] at hy
      subst this
      simp at hy; subst hy
      exact hx
  · have := h.verIn t m b x hv; simp only [size_alloc]; omega
  · refine (h.tok t m hm).keep e fun b x hv => ?_
    have hlt := (h.verIn t m b x hv).2
    refine ⟨heap_push_old hlt, rfl, fun r hr hc => ?_⟩
    simp only [Gh.lay] at hc
    split at hc
    · cases hc; omega
    · exact hr hc
theorem WInv.change {W0 g H w} (h : WInv W0 g H w) {r b : Nat} {x0 x : AObj} {w' : World} (hr : H.objs[r]? = some x0) (hl : g.loc r = some b)
    (hpub : g.pub b = 0) (hfro : g.fro b = false) (hs : w'.heap.size = w.heap.size) (ho : w'.os = w.os) (hu : w'.output = w.output) (ht : w'.tape = w.tape)
    (hh : ∀ c, c ≠ b → w'.heap[c]? = w.heap[c]?) (hx : Ext g w g w' → OR g w' r x) :
    WInv W0 g { H with objs := H.objs.set r x } w' ∧ Ext g w g w' := by
  have hb := h.locIn r b hl
  have e : Ext g w g w' := by
    refine ⟨by omega, fun b => Nat.le_refl _, fun c off v hp hc => ?_, fun _ h => h, fun c hc => ?_, fun _ _ h => h, fun _ _ _ h => h⟩
    · have : c ≠ b := fun e => by subst e; omega
      rw [cell_heap (hh c this)]; exact hc
    · exact hh c fun e => by subst e; rw [hfro] at hc; cases hc
  refine ⟨⟨fun c hc => ?_, by rw [hs]; exact h.size, ho.trans h.os, hu.trans h.out, ht.trans h.tape, h.pubOld, by rw [hs]; exact h.pubNew, fun c hc => ?_, by rw [hs]; exact h.locIn, fun q hq => h.locNew q (by simpa using hq), h.inj, fun q y hy => ?_, by rw [hs]; exact h.verIn, h.verNew, h.verHi, fun t m hm => ?_, h.tokInj⟩, e⟩
  · rw [hh c (by omega)]; exact h.base c hc
  · obtain ⟨h1, h2, es, cl, h3⟩ := h.fro c hc
    exact ⟨h1, by omega, es, cl, (hh c fun e => by subst e; rw [hfro] at hc; cases hc).trans h3⟩
  · by_cases hq : q = r
    · subst hq
      have hlt : q < H.objs.length := by
        rcases Nat.lt_or_ge q H.objs.length with k | k
        · exact k
        · simp [List.getElem?_eq_none k] at hr
      simp [List.getElem?_set_self hlt] at hy
      subst hy
      exact hx e
    · rw [List.getElem?_set_ne (fun e => hq e.symm)] at hy
      refine (h.obj q y hy).keep e fun c hc => ⟨hh c fun e => ?_, id, id⟩
      subst e
      exact hq (h.inj q r c hc hl)
  · refine (h.tok t m hm).keep e fun c y hv => ⟨hh c fun e => ?_, rfl, fun _ => id⟩
    subst e
    obtain ⟨b', o, cap, sz, cs, T, hv', _, _, _, _, _, hn⟩ := h.tok t m hm
    rw [hv] at hv'
    cases hv'
    exact hn r hl
end Go.Av
