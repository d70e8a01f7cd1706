/-
  Go read by value: lemmas (part 14): A22.
-/
import Derived.Below
import Derived.Test.YtdeocbficanfaaaGreatDoorX13
set_option linter.unusedVariables false
set_option linter.unusedSimpArgs false
set_option linter.unusedSectionVars false
namespace Go.Av
open Go.RowKit (Below)
theorem Below.of {W0 : World} {g : Gh} {H : Hp} {w : World} (h : WInv W0 g H w) : Below W0.heap.size W0 w := ⟨h.os, h.tape, h.out, h.size, fun k hk => h.base k hk⟩
theorem WInv.below {W0 : World} {g : Gh} {H : Hp} {w w' : World} (h : WInv W0 g H w) (b : Below w.heap.size w w') : WInv W0 g H w' ∧ Ext g w g w' := by
  have e : Ext g w g w' := by
    refine ⟨b.size, fun _ => Nat.le_refl _, fun x o v _ hc => ?_, fun _ h => h, fun x hx => b.block x (h.fro x hx).2.1, fun _ _ h => h, fun _ _ _ h => h⟩
    rw [cell_heap (b.block x (cell_lt hc))]; exact hc
  have hs := b.size
  refine ⟨⟨fun x hx => ?_, Nat.le_trans h.size b.size, b.os.trans h.os, b.output.trans h.out, b.tape.trans h.tape, h.pubOld, fun x hx => h.pubNew x (Nat.le_trans hs hx), fun x hx => ?_, fun r x hx => ?_, h.locNew, h.inj, fun r o ho => ?_, fun t n x y hv => ?_, h.verNew, h.verHi, fun t n hn => ?_, h.tokInj⟩, e⟩
  · rw [b.block x (Nat.lt_of_lt_of_le hx h.size)]; exact h.base x hx
  · obtain ⟨h1, h2, es, cl, h3⟩ := h.fro x hx
    exact ⟨h1, by omega, es, cl, (b.block x h2).trans h3⟩
  · have := h.locIn r x hx; omega
  · exact (h.obj r o ho).keep e fun c hc => ⟨b.block c (h.locIn r c hc).2, id, id⟩
  · have := h.verIn t n x y hv; omega
  · exact (h.tok t n hn).keep e fun c y hv => ⟨b.block c (h.verIn t n c y hv).2, rfl, fun _ => id⟩
theorem WInv.showRow {W0 : World} {g : Gh} {H : Hp} {w : World} (h : WInv W0 g H w) {nb : Nat} (n : Nat) (h1 : W0.heap.size ≤ nb) (h2 : nb < w.heap.size) (hp : g.pub nb = 0) (hl : ∀ r, g.loc r ≠ some nb) (hv : ∀ t k x, g.ver t k ≠ some (nb, x)) :
    WInv W0 (g.publish nb n) H w ∧ Ext g w (g.publish nb n) w := by
  have old : ∀ b, b ≠ nb → (g.publish nb n).pub b = g.pub b := fun b hb => by simp [Gh.publish, hb]
  have e : Ext g w (g.publish nb n) w := by
    refine ⟨Nat.le_refl _, fun b => ?_, fun _ _ _ _ hc => hc, fun _ h => h, fun _ _ => rfl, fun _ _ h => h, fun _ _ _ h => h⟩
    by_cases hb : b = nb
    · subst hb; rw [hp]; exact Nat.zero_le _
    · rw [old b hb]; exact Nat.le_refl _
  refine ⟨⟨h.base, h.size, h.os, h.out, h.tape, fun b hb => ?_, fun b hb => ?_, h.fro, h.locIn, h.locNew, h.inj, fun r o ho => ?_, h.verIn, h.verNew, h.verHi, fun t m hm => ?_, h.tokInj⟩, e⟩
  · rw [old b (by omega)]; exact h.pubOld b hb
  · rw [old b (by omega)]; exact h.pubNew b hb
  · exact (h.obj r o ho).keep e fun c hc => ⟨rfl, fun hz => (old c fun q => by subst q; exact hl r hc).trans hz, id⟩
  · exact (h.tok t m hm).keep e fun c y hy => ⟨rfl, old c fun q => by subst q; exact hv t m y hy, fun _ => id⟩
theorem WInv.showNew {W0 : World} {g : Gh} {H : Hp} {w w' : World} (h : WInv W0 g H w) (b : Below w.heap.size w w') {nb : Nat} (n : Nat) (h1 : w.heap.size ≤ nb) (h2 : nb < w'.heap.size) :
    WInv W0 (g.publish nb n) H w' ∧ Ext g w (g.publish nb n) w' := by
  obtain ⟨i, e⟩ := h.below b
  obtain ⟨i2, e2⟩ := i.showRow n (Nat.le_trans h.size h1) h2 (h.pubNew nb h1) (fun r hr => by have := (h.locIn r nb hr).2; omega) (fun t k x hx => by have := (h.verIn t k nb x hx).2; omega)
  exact ⟨i2, e.trans e2⟩
section
variable {P : Program} {W0 : World}
theorem SF.lib {f : FuncId} {args : List AV} {H : Hp} {a : AV}
    (h : ∀ g w (vs : Array Value), WInv W0 g H w → AR g w args vs.toList → Calls P f vs w fun e w' => ∃ v, e = .returned v ∧ Below w.heap.size w w' ∧ VR g w' a v) :
    SF P W0 f args H fun r H' => H' = H ∧ r = a := by
  intro g w vs inv har
  refine (h g w vs inv har).mono ?_
  rintro e w' ⟨v, rfl, hb, hv⟩
  obtain ⟨i, ext⟩ := inv.below hb
  exact ⟨v, g, a, H, rfl, ⟨rfl, rfl⟩, ext, i, hv⟩
theorem ER_row {g : Gh} {w : World} {b : Nat} {cs : Array Value} {T : TypeId} {fr} (hh : w.heap[b]? = some (.cells cs T fr)) : ∀ (es : List (List AV)) (o : Nat), (∀ j e, es[j]? = some e → ∃ a v, e = [a] ∧ cs[o + j]? = some v ∧ VR g w a v) → o + es.length ≤ g.pub b → ER g w b 1 o es
  | [], _, _, _ => trivial
  | e :: es, o, h, hp => by
    simp only [List.length_cons] at hp
    obtain ⟨a, v, rfl, hv, hr⟩ := h 0 e (by simp)
    refine ⟨rfl, ⟨⟨v, ?_, by omega, hr⟩, trivial⟩, ER_row hh es (o + 1) (fun j e hj => ?_) (by omega)⟩
    · rw [cell_row hh]; simpa using hv
    · obtain ⟨a, v, q1, q2, q3⟩ := h (j + 1) e (by simpa using hj)
      exact ⟨a, v, q1, by rw [show o + 1 + j = o + (j + 1) from by omega]; exact q2, q3⟩
end
end Go.Av
