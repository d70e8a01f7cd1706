/-
  Go read by value: lemmas (part 16): C1, B1, D0, D1, D2, D3, D4, D5, D6, D7.
-/
import Derived.Lib.ValidLaws
import Derived.Lib.MapLaws
import Derived.Test.YtdeocbficanfaaaGreatDoorX15
set_option linter.unusedVariables false
set_option linter.unusedSimpArgs false
set_option linter.unusedSectionVars false
namespace Go.Av
open Go.Lib
theorem dec_at (s : Str) (p : Nat) : Utf8.decode ⟨s.toArray⟩ p = decodeL (s.drop p) := by
  have := decodeL_drop ⟨s.toArray⟩ p
  simpa using this.symm
def runesF : Nat → Str → List Nat
  | 0, _ => []
  | n + 1, l => if l = [] then [] else (decodeL l).1 :: runesF n (l.drop (decodeL l).2)
def runes (l : Str) : List Nat := runesF l.length l
theorem runesF_fuel : ∀ (n m : Nat) (l : Str), l.length ≤ n → l.length ≤ m → runesF n l = runesF m l
  | 0, m, l, hn, _ => by
    have : l = [] := List.eq_nil_of_length_eq_zero (by omega)
    subst this
    cases m <;> simp [runesF]
  | n + 1, 0, l, _, hm => by
    have : l = [] := List.eq_nil_of_length_eq_zero (by omega)
    subst this
    simp [runesF]
  | n + 1, m + 1, l, hn, hm => by
    simp only [runesF]
    split
    · rfl
    · have hw := decodeL_width l
      rw [runesF_fuel n m _ (by rw [List.length_drop]; omega) (by rw [List.length_drop]; omega)]
@[simp] theorem runes_nil : runes [] = [] := rfl
theorem runes_step (l : Str) (h : l ≠ []) : runes l = (decodeL l).1 :: runes (l.drop (decodeL l).2) := by
  have hl : 0 < l.length := List.length_pos_iff.2 h
  have hw := decodeL_width l
  obtain ⟨n, hn⟩ : ∃ n, l.length = n + 1 := ⟨l.length - 1, by omega⟩
  unfold runes
  rw [hn]
  simp only [runesF, if_neg h]
  rw [runesF_fuel n _ _ (by rw [List.length_drop]; omega) (Nat.le_refl _)]
def cls (r : Int) : Int :=
  if (65 ≤ r ∧ r ≤ 90) ∨ (97 ≤ r ∧ r ≤ 122) ∨ r = 95 then 1
  else if 48 ≤ r ∧ r ≤ 57 then 2
  else if r = 32 ∨ r = 9 ∨ r = 10 then 3
  else if 128 ≤ r ∧ r ≤ 1114111 ∧ r ≠ 65533 ∧ (r < 55296 ∨ 57343 < r) then 1
  else 0
def okR (first : Bool) (r : Nat) : Bool := cls r == 1 || (!first && (cls r == 2 || r == 39))
def nameRs : Bool → List Nat → Bool
  | _, [] => true
  | f, r :: l => okR f r && nameRs false l
def nameB (s : Str) : Bool := decide (1 ≤ s.length ∧ s.length ≤ 32) && (validD s && nameRs true (runes s))
def pieces : Str → Str → List Str
  | acc, [] => [acc]
  | acc, c :: l => if c = 46 then acc :: pieces [] l else pieces (acc ++ [c]) l
theorem pieces_ne (acc l : Str) : pieces acc l ≠ [] := by
  induction l generalizing acc with
  | nil => simp [pieces]
  | cons c l ih => simp only [pieces]; split <;> simp [ih]
end Go.Av
namespace Go.Av
open Go.Proofs
theorem en6 : enters Tryz.prog 6 := ⟨_, Tryz.func6, by decide, nofun⟩
theorem en7 : enters Tryz.prog 7 := ⟨_, Tryz.func7, by decide, nofun⟩
theorem en9 : enters Tryz.prog 9 := ⟨_, Tryz.func9, by decide, nofun⟩
theorem en11 : enters Tryz.prog 11 := ⟨_, Tryz.func11, by decide, nofun⟩
theorem en12 : enters Tryz.prog 12 := ⟨_, Tryz.func12, by decide, nofun⟩
theorem en15 : enters Tryz.prog 15 := ⟨_, Tryz.func15, by decide, nofun⟩
theorem en17 : enters Tryz.prog 17 := ⟨_, Tryz.func17, by decide, nofun⟩
theorem en18 : enters Tryz.prog 18 := ⟨_, Tryz.func18, by decide, nofun⟩
theorem en19 : enters Tryz.prog 19 := ⟨_, Tryz.func19, by decide, nofun⟩
theorem en20 : enters Tryz.prog 20 := ⟨_, Tryz.func20, by decide, nofun⟩
theorem en22 : enters Tryz.prog 22 := ⟨_, Tryz.func22, by decide, nofun⟩
theorem en23 : enters Tryz.prog 23 := ⟨_, Tryz.func23, by decide, nofun⟩
theorem en25 : enters Tryz.prog 25 := ⟨_, Tryz.func25, by decide, nofun⟩
theorem en26 : enters Tryz.prog 26 := ⟨_, Tryz.func26, by decide, nofun⟩
theorem en27 : enters Tryz.prog 27 := ⟨_, Tryz.func27, by decide, nofun⟩
theorem en28 : enters Tryz.prog 28 := ⟨_, Tryz.func28, by decide, nofun⟩
theorem en29 : enters Tryz.prog 29 := ⟨_, Tryz.func29, by decide, nofun⟩
theorem en30 : enters Tryz.prog 30 := ⟨_, Tryz.func30, by decide, nofun⟩
theorem en31 : enters Tryz.prog 31 := ⟨_, Tryz.func31, by decide, nofun⟩
theorem en32 : enters Tryz.prog 32 := ⟨_, Tryz.func32, by decide, nofun⟩
theorem en33 : enters Tryz.prog 33 := ⟨_, Tryz.func33, by decide, nofun⟩
theorem en34 : enters Tryz.prog 34 := ⟨_, Tryz.func34, by decide, nofun⟩
theorem en35 : enters Tryz.prog 35 := ⟨_, Tryz.func35, by decide, nofun⟩
theorem en36 : enters Tryz.prog 36 := ⟨_, Tryz.func36, by decide, nofun⟩
theorem en37 : enters Tryz.prog 37 := ⟨_, Tryz.func37, by decide, nofun⟩
theorem en42 : enters Tryz.prog 42 := ⟨_, Tryz.func42, by decide, nofun⟩
theorem en43 : enters Tryz.prog 43 := ⟨_, Tryz.func43, by decide, nofun⟩
theorem en44 : enters Tryz.prog 44 := ⟨_, Tryz.func44, by decide, nofun⟩
theorem en46 : enters Tryz.prog 46 := ⟨_, Tryz.func46, by decide, nofun⟩
theorem en47 : enters Tryz.prog 47 := ⟨_, Tryz.func47, by decide, nofun⟩
theorem en48 : enters Tryz.prog 48 := ⟨_, Tryz.func48, by decide, nofun⟩
theorem en50 : enters Tryz.prog 50 := ⟨_, Tryz.func50, by decide, nofun⟩
theorem en51 : enters Tryz.prog 51 := ⟨_, Tryz.func51, by decide, nofun⟩
theorem en52 : enters Tryz.prog 52 := ⟨_, Tryz.func52, by decide, nofun⟩
theorem en53 : enters Tryz.prog 53 := ⟨_, Tryz.func53, by decide, nofun⟩
theorem en54 : enters Tryz.prog 54 := ⟨_, Tryz.func54, by decide, nofun⟩
theorem en55 : enters Tryz.prog 55 := ⟨_, Tryz.func55, by decide, nofun⟩
theorem en56 : enters Tryz.prog 56 := ⟨_, Tryz.func56, by decide, nofun⟩
theorem en57 : enters Tryz.prog 57 := ⟨_, Tryz.func57, by decide, nofun⟩
theorem en58 : enters Tryz.prog 58 := ⟨_, Tryz.func58, by decide, nofun⟩
theorem en59 : enters Tryz.prog 59 := ⟨_, Tryz.func59, by decide, nofun⟩
theorem en60 : enters Tryz.prog 60 := ⟨_, Tryz.func60, by decide, nofun⟩
theorem en61 : enters Tryz.prog 61 := ⟨_, Tryz.func61, by decide, nofun⟩
theorem en62 : enters Tryz.prog 62 := ⟨_, Tryz.func62, by decide, nofun⟩
theorem en63 : enters Tryz.prog 63 := ⟨_, Tryz.func63, by decide, nofun⟩
theorem en64 : enters Tryz.prog 64 := ⟨_, Tryz.func64, by decide, nofun⟩
theorem en65 : enters Tryz.prog 65 := ⟨_, Tryz.func65, by decide, nofun⟩
theorem en66 : enters Tryz.prog 66 := ⟨_, Tryz.func66, by decide, nofun⟩
theorem en67 : enters Tryz.prog 67 := ⟨_, Tryz.func67, by decide, nofun⟩
theorem en68 : enters Tryz.prog 68 := ⟨_, Tryz.func68, by decide, nofun⟩
theorem en69 : enters Tryz.prog 69 := ⟨_, Tryz.func69, by decide, nofun⟩
theorem en70 : enters Tryz.prog 70 := ⟨_, Tryz.func70, by decide, nofun⟩
theorem en71 : enters Tryz.prog 71 := ⟨_, Tryz.func71, by decide, nofun⟩
theorem en72 : enters Tryz.prog 72 := ⟨_, Tryz.func72, by decide, nofun⟩
theorem en73 : enters Tryz.prog 73 := ⟨_, Tryz.func73, by decide, nofun⟩
theorem en87 : enters Tryz.prog 87 := ⟨_, Tryz.func87, by decide, nofun⟩
theorem en88 : enters Tryz.prog 88 := ⟨_, Tryz.func88, by decide, nofun⟩
theorem en89 : enters Tryz.prog 89 := ⟨_, Tryz.func89, by decide, nofun⟩
theorem en93 : enters Tryz.prog 93 := ⟨_, Tryz.func93, by decide, nofun⟩
theorem en95 : enters Tryz.prog 95 := ⟨_, Tryz.func95, by decide, nofun⟩
theorem en96 : enters Tryz.prog 96 := ⟨_, Tryz.func96, by decide, nofun⟩
theorem en97 : enters Tryz.prog 97 := ⟨_, Tryz.func97, by decide, nofun⟩
theorem en98 : enters Tryz.prog 98 := ⟨_, Tryz.func98, by decide, nofun⟩
theorem en99 : enters Tryz.prog 99 := ⟨_, Tryz.func99, by decide, nofun⟩
theorem en100 : enters Tryz.prog 100 := ⟨_, Tryz.func100, by decide, nofun⟩
theorem en101 : enters Tryz.prog 101 := ⟨_, Tryz.func101, by decide, nofun⟩
theorem en102 : enters Tryz.prog 102 := ⟨_, Tryz.func102, by decide, nofun⟩
theorem en103 : enters Tryz.prog 103 := ⟨_, Tryz.func103, by decide, nofun⟩
theorem en104 : enters Tryz.prog 104 := ⟨_, Tryz.func104, by decide, nofun⟩
theorem en105 : enters Tryz.prog 105 := ⟨_, Tryz.func105, by decide, nofun⟩
theorem en106 : enters Tryz.prog 106 := ⟨_, Tryz.func106, by decide, nofun⟩
theorem en107 : enters Tryz.prog 107 := ⟨_, Tryz.func107, by decide, nofun⟩
theorem en108 : enters Tryz.prog 108 := ⟨_, Tryz.func108, by decide, nofun⟩
theorem en112 : enters Tryz.prog 112 := ⟨_, Tryz.func112, by decide, nofun⟩
theorem en113 : enters Tryz.prog 113 := ⟨_, Tryz.func113, by decide, nofun⟩
theorem en121 : enters Tryz.prog 121 := ⟨_, Tryz.func121, by decide, nofun⟩
theorem en122 : enters Tryz.prog 122 := ⟨_, Tryz.func122, by decide, nofun⟩
theorem en123 : enters Tryz.prog 123 := ⟨_, Tryz.func123, by decide, nofun⟩
theorem en124 : enters Tryz.prog 124 := ⟨_, Tryz.func124, by decide, nofun⟩
theorem en128 : enters Tryz.prog 128 := ⟨_, Tryz.func128, by decide, nofun⟩
theorem en133 : enters Tryz.prog 133 := ⟨_, Tryz.func133, by decide, nofun⟩
theorem en134 : enters Tryz.prog 134 := ⟨_, Tryz.func134, by decide, nofun⟩
theorem en135 : enters Tryz.prog 135 := ⟨_, Tryz.func135, by decide, nofun⟩
theorem en136 : enters Tryz.prog 136 := ⟨_, Tryz.func136, by decide, nofun⟩
theorem en137 : enters Tryz.prog 137 := ⟨_, Tryz.func137, by decide, nofun⟩
theorem en138 : enters Tryz.prog 138 := ⟨_, Tryz.func138, by decide, nofun⟩
theorem en139 : enters Tryz.prog 139 := ⟨_, Tryz.func139, by decide, nofun⟩
theorem en140 : enters Tryz.prog 140 := ⟨_, Tryz.func140, by decide, nofun⟩
theorem en141 : enters Tryz.prog 141 := ⟨_, Tryz.func141, by decide, nofun⟩
theorem en142 : enters Tryz.prog 142 := ⟨_, Tryz.func142, by decide, nofun⟩
theorem en143 : enters Tryz.prog 143 := ⟨_, Tryz.func143, by decide, nofun⟩
theorem en144 : enters Tryz.prog 144 := ⟨_, Tryz.func144, by decide, nofun⟩
theorem en145 : enters Tryz.prog 145 := ⟨_, Tryz.func145, by decide, nofun⟩
theorem en146 : enters Tryz.prog 146 := ⟨_, Tryz.func146, by decide, nofun⟩
theorem en147 : enters Tryz.prog 147 := ⟨_, Tryz.func147, by decide, nofun⟩
theorem en148 : enters Tryz.prog 148 := ⟨_, Tryz.func148, by decide, nofun⟩
theorem en150 : enters Tryz.prog 150 := ⟨_, Tryz.func150, by decide, nofun⟩
theorem en157 : enters Tryz.prog 157 := ⟨_, Tryz.func157, by decide, nofun⟩
theorem en158 : enters Tryz.prog 158 := ⟨_, Tryz.func158, by decide, nofun⟩
theorem en163 : enters Tryz.prog 163 := ⟨_, Tryz.func163, by decide, nofun⟩
theorem en164 : enters Tryz.prog 164 := ⟨_, Tryz.func164, by decide, nofun⟩
theorem en168 : enters Tryz.prog 168 := ⟨_, Tryz.func168, by decide, nofun⟩
theorem en169 : enters Tryz.prog 169 := ⟨_, Tryz.func169, by decide, nofun⟩
theorem en170 : enters Tryz.prog 170 := ⟨_, Tryz.func170, by decide, nofun⟩
theorem en171 : enters Tryz.prog 171 := ⟨_, Tryz.func171, by decide, nofun⟩
theorem en172 : enters Tryz.prog 172 := ⟨_, Tryz.func172, by decide, nofun⟩
theorem en173 : enters Tryz.prog 173 := ⟨_, Tryz.func173, by decide, nofun⟩
theorem en174 : enters Tryz.prog 174 := ⟨_, Tryz.func174, by decide, nofun⟩
theorem en175 : enters Tryz.prog 175 := ⟨_, Tryz.func175, by decide, nofun⟩
theorem en176 : enters Tryz.prog 176 := ⟨_, Tryz.func176, by decide, nofun⟩
theorem en177 : enters Tryz.prog 177 := ⟨_, Tryz.func177, by decide, nofun⟩
theorem en178 : enters Tryz.prog 178 := ⟨_, Tryz.func178, by decide, nofun⟩
theorem en179 : enters Tryz.prog 179 := ⟨_, Tryz.func179, by decide, nofun⟩
theorem en193 : enters Tryz.prog 193 := ⟨_, Tryz.func193, by decide, nofun⟩
theorem en194 : enters Tryz.prog 194 := ⟨_, Tryz.func194, by decide, nofun⟩
theorem en195 : enters Tryz.prog 195 := ⟨_, Tryz.func195, by decide, nofun⟩
theorem en196 : enters Tryz.prog 196 := ⟨_, Tryz.func196, by decide, nofun⟩
theorem en197 : enters Tryz.prog 197 := ⟨_, Tryz.func197, by decide, nofun⟩
theorem en198 : enters Tryz.prog 198 := ⟨_, Tryz.func198, by decide, nofun⟩
theorem en199 : enters Tryz.prog 199 := ⟨_, Tryz.func199, by decide, nofun⟩
theorem en200 : enters Tryz.prog 200 := ⟨_, Tryz.func200, by decide, nofun⟩
theorem en201 : enters Tryz.prog 201 := ⟨_, Tryz.func201, by decide, nofun⟩
theorem en210 : enters Tryz.prog 210 := ⟨_, Tryz.func210, by decide, nofun⟩
theorem en211 : enters Tryz.prog 211 := ⟨_, Tryz.func211, by decide, nofun⟩
theorem en212 : enters Tryz.prog 212 := ⟨_, Tryz.func212, by decide, nofun⟩
theorem en213 : enters Tryz.prog 213 := ⟨_, Tryz.func213, by decide, nofun⟩
theorem en214 : enters Tryz.prog 214 := ⟨_, Tryz.func214, by decide, nofun⟩
theorem en216 : enters Tryz.prog 216 := ⟨_, Tryz.func216, by decide, nofun⟩
theorem en217 : enters Tryz.prog 217 := ⟨_, Tryz.func217, by decide, nofun⟩
theorem en218 : enters Tryz.prog 218 := ⟨_, Tryz.func218, by decide, nofun⟩
theorem en219 : enters Tryz.prog 219 := ⟨_, Tryz.func219, by decide, nofun⟩
theorem en220 : enters Tryz.prog 220 := ⟨_, Tryz.func220, by decide, nofun⟩
theorem en221 : enters Tryz.prog 221 := ⟨_, Tryz.func221, by decide, nofun⟩
theorem en222 : enters Tryz.prog 222 := ⟨_, Tryz.func222, by decide, nofun⟩
theorem en223 : enters Tryz.prog 223 := ⟨_, Tryz.func223, by decide, nofun⟩
theorem en224 : enters Tryz.prog 224 := ⟨_, Tryz.func224, by decide, nofun⟩
theorem en225 : enters Tryz.prog 225 := ⟨_, Tryz.func225, by decide, nofun⟩
theorem en226 : enters Tryz.prog 226 := ⟨_, Tryz.func226, by decide, nofun⟩
theorem en227 : enters Tryz.prog 227 := ⟨_, Tryz.func227, by decide, nofun⟩
theorem en228 : enters Tryz.prog 228 := ⟨_, Tryz.func228, by decide, nofun⟩
theorem en229 : enters Tryz.prog 229 := ⟨_, Tryz.func229, by decide, nofun⟩
theorem en230 : enters Tryz.prog 230 := ⟨_, Tryz.func230, by decide, nofun⟩
theorem en231 : enters Tryz.prog 231 := ⟨_, Tryz.func231, by decide, nofun⟩
end Go.Av
namespace Go.Av
open Go.Proofs
variable {W0 : World}
set_option maxRecDepth 10000
theorem sf22 {H : Hp} {a b : List Int} {o1 o2 : Own} (hl : a.length ≤ 67108864) :
    SF Tryz.prog W0 22 [.sl 1 (ints a) o1, .sl 1 (ints b) o2] H fun r H' => H' = H ∧ r = .bool (decide (a = b)) := by
  refine SF.pureLe (sf_start [4] 26 Tryz.func22 rfl rfl rfl (by decide) (by simp) ?_)
  repeat' first
    | refine aSq ?_ | refine aRt ?_ | refine aSk ?_ | refine aBl ?_ | refine tN ?_ | refine tR ?_
    | refine ru ?_
    | (refine awp_if rfl (fun hb => ?_) (fun hb => ?_) <;> (try simp at hb) <;> try (exfalso; omega))
    | fail
  · have : ¬ a = b := by intro h; subst h; exact absurd rfl hb
    simp [retQ, this]
  refine awp_loop_inv (fun k st => ∃ i : Nat, k = a.length - i ∧ i ≤ a.length ∧ a.take i = b.take i ∧ Sub st ⟨26, [(5, .int .i64 i), (0, .sl 1 (ints a) o1), (1, .sl 1 (ints b) o2)], H⟩) a.length ⟨0, by simp, by simp, by simp, ⟨rfl, rfl, only_cons (by simp) (only_cons (by simp) (only_cons (by simp) only_nil))⟩⟩ ?_
  rintro k st ⟨i, rfl, hi, hp, hs⟩
  refine awp_sub hs ?_
  clear hs st
  have hab : b.length = a.length := by omega
  repeat' first
    | refine aSq ?_ | refine aRt ?_ | refine aSk ?_ | refine aEx ?_ | refine aBl ?_ | refine tN ?_ | refine tR ?_ | refine iR ?_
    | (refine dr 6 [(0, true), (1, true), (2, true), (3, true), (4, true), (5, true), (6, true), (7, true), (8, true)] [] ?_; refine dl ?_)
    | refine ru ?_
    | (refine awp_if rfl (fun hb => ?_) (fun hb => ?_) <;> (try simp at hb) <;> try (exfalso; omega))
    | fail
  · have : ¬ a = b := by rintro rfl; exact hb rfl
    simp [retQ, this]
  · refine ⟨a.length - (i + 1), by omega, i + 1, rfl, by omega, ?_, rfl, rfl, ?_⟩
    · rw [List.take_add_one, List.take_add_one, hp]; simp [*]
    · exact only_cons (by simp) (only_cons (by simp) (only_cons (by simp) only_nil))
  · have : a = b := by
      rw [List.take_of_length_le (by omega), List.take_of_length_le (by omega)] at hp; exact hp
    simp [retQ, this]
theorem sf23 {H : Hp} {a b : List Str} {o1 o2 : Own} (hl : a.length ≤ 67108864) :
    SF Tryz.prog W0 23 [.sl 1 (strs a) o1, .sl 1 (strs b) o2] H fun r H' => H' = H ∧ r = .bool (decide (a = b)) := by
  refine SF.pureLe (sf_start [4] 26 Tryz.func23 rfl rfl rfl (by decide) (by simp) ?_)
  repeat' first
    | refine aSq ?_ | refine aRt ?_ | refine aSk ?_ | refine aBl ?_ | refine tN ?_ | refine tR ?_
    | refine ru ?_
    | (refine awp_if rfl (fun hb => ?_) (fun hb => ?_) <;> (try simp at hb) <;> try (exfalso; omega))
    | fail
  · have : ¬ a = b := by intro h; subst h; exact absurd rfl hb
    simp [retQ, this]
  refine awp_loop_inv (fun k st => ∃ i : Nat, k = a.length - i ∧ i ≤ a.length ∧ a.take i = b.take i ∧ Sub st ⟨26, [(5, .int .i64 i), (0, .sl 1 (strs a) o1), (1, .sl 1 (strs b) o2)], H⟩) a.length ⟨0, by simp, by simp, by simp, ⟨rfl, rfl, only_cons (by simp) (only_cons (by simp) (only_cons (by simp) only_nil))⟩⟩ ?_
  rintro k st ⟨i, rfl, hi, hp, hs⟩
  refine awp_sub hs ?_
  clear hs st
  have hab : b.length = a.length := by omega
  repeat' first
    | refine aSq ?_ | refine aRt ?_ | refine aSk ?_ | refine aEx ?_ | refine aBl ?_ | refine tN ?_ | refine tR ?_ | refine iR ?_
    | (refine dr 6 [(0, true), (1, true), (2, true), (3, true), (4, true), (5, true), (6, true), (7, true), (8, true)] [] ?_; refine dl ?_)
    | refine ru ?_
    | (refine awp_if rfl (fun hb => ?_) (fun hb => ?_) <;> (try simp at hb) <;> try (exfalso; omega))
    | fail
  · have : ¬ a = b := by rintro rfl; exact hb rfl
    simp [retQ, this]
  · refine ⟨a.length - (i + 1), by omega, i + 1, rfl, by omega, ?_, rfl, rfl, ?_⟩
    · rw [List.take_add_one, List.take_add_one, hp]; simp [*]
    · exact only_cons (by simp) (only_cons (by simp) (only_cons (by simp) only_nil))
  · have : a = b := by
      rw [List.take_of_length_le (by omega), List.take_of_length_le (by omega)] at hp; exact hp
    simp [retQ, this]
theorem sf63 {H : Hp} {a : List Int} {own : Own} {i : Int} (hl : a.length < 1000000) :
    SF Tryz.prog W0 63 [.sl 1 (ints a) own, .int .i64 i] H fun r H' => H' = H ∧ r = .sl 1 (ints (a ++ [i])) .shut := by
  refine SF.pureLe (sf_start [4] 14 Tryz.func63 rfl rfl rfl (by decide) (by simp) ?_)
  refine awp_seq (awp_run (mu := mu0) tab_ok (by simp; rfl) (thenN (awp_seq ?_)))
  have a1 := App.capped H H 1 (ints a)
  obtain ⟨v2, H2, e2, a2, g2, h2⟩ := a1.append (T := tab) (Gr.refl H) (x := .sl 1 [[.int .i64 i]] .capped) (fs := [[.int .i64 i]]) (t := 33) (e := 3) rfl rfl rfl (by decide) (by simp) (by simp) (by simp; omega)
  refine awp_run (mu := mu0) tab_ok (by simp [e2]; rfl) ?_
  refine thenN (awp_ret ⟨g2, _, a2.le', ?_⟩)
  rw [show ints a ++ [[AV.int .i64 i]] = ints (a ++ [i]) from by simp [ints]]; simp
theorem sf33 : ∀ (N : Nat) (t : Tr) (H : Hp), t.cnt ≤ N → t.cnt ≤ 67108864 → t.slim → SF Tryz.prog W0 33 [t.av] H fun r H' => H' = H ∧ r = .int .i64 t.cnt := by
  intro N
  induction N with
  | zero =>
    intro t H hN hc hs
    refine SF.pureLe (sf_start [2] 27 Tryz.func33 rfl rfl rfl (by decide) (by simp) ?_)
    cases t with
    | none =>
      simp only [Tr.av]
      repeat' first
        | refine aSq ?_ | refine aRt ?_ | refine tN ?_ | refine tR ?_
        | refine ru ?_
        | (refine awp_if rfl (fun hb => ?_) (fun hb => ?_) <;> (try simp at hb) <;> try (exfalso; omega))
        | fail
      simp [retQ, Tr.cnt]
    | node k n a b l => simp [Tr.cnt] at hN
  | succ N ih =>
    intro t H hN hc hs
    refine SF.pureLe (sf_start [2] 27 Tryz.func33 rfl rfl rfl (by decide) (by simp) ?_)
    cases t with
    | none =>
      simp only [Tr.av]
      repeat' first
        | refine aSq ?_ | refine aRt ?_ | refine tN ?_ | refine tR ?_
        | refine ru ?_
        | (refine awp_if rfl (fun hb => ?_) (fun hb => ?_) <;> (try simp at hb) <;> try (exfalso; omega))
        | fail
      simp [retQ, Tr.cnt]
    | node k n a b l =>
      simp only [Tr.av]
      simp only [Tr.cnt] at hN hc
      simp only [Tr.slim] at hs
      repeat' first
        | refine aSq ?_ | refine aSk ?_ | refine aBl ?_ | refine tN ?_
        | refine ru ?_
        | (refine awp_if rfl (fun hb => ?_) (fun hb => ?_) <;> (try simp at hb) <;> try (exfalso; omega))
        | fail
      refine awp_loop_inv (fun m st => ∃ i : Nat, m = l.length - i ∧ i ≤ l.length ∧ Sub st ⟨27, [(3, .int .i64 (1 + Tr.cnts (l.take i) : Nat)), (4, .int .i64 i), (0, (Tr.node k n a b l).av)], H⟩) l.length ⟨0, by simp, by simp, ⟨rfl, rfl, only_cons (by simp [Tr.cnts]) (only_cons (by simp) (only_cons (by simp [Tr.av]) only_nil))⟩⟩ ?_
      rintro m st ⟨i, rfl, hi, hs2⟩
      refine awp_sub hs2 ?_
      clear hs2 st
      have h1 := Tr.cnts_take_le l i
      have h3 : ∀ h : i < l.length, 1 + Tr.cnts (l.take i) + (l[i]).cnt ≤ 1 + Tr.cnts l := fun h => by
        have := Tr.cnts_take l i h; have := Tr.cnts_take_le l (i + 1); omega
      simp only [Tr.av]
      repeat' first
        | refine aSq ?_ | refine aRt ?_ | refine aSk ?_ | refine aEx ?_ | refine aBl ?_ | refine tN ?_
        | (refine rg 7 ?_; refine tk 8 ?_; refine fc en33 ?_; have h4 := h3 (by assumption); refine SF.then (ih _ _ (by omega) (by omega) (Tr.slims_get _ _ _ hs.2)) ?_; refine tk 2 ?_; refine dn ?_)
        | refine ru ?_
        | (refine awp_if rfl (fun hb => ?_) (fun hb => ?_) <;> (try simp at hb) <;> try (exfalso; omega))
        | fail
      · have h4 := h3 hb
        have h5 := Tr.cnts_take l i hb
        exact ⟨l.length - (i + 1), by omega, i + 1, rfl, by omega, rfl, rfl, only_cons (by rw [h5]; simp [Int.add_assoc]) (only_cons (by simp) (only_cons (by simp [Tr.av]) only_nil))⟩
      · rw [List.take_of_length_le (by omega)]
        simp [retQ, Tr.cnt]
theorem sf142 : ∀ (N : Nat) (t : Tr) (H : Hp), t.cnt ≤ N → t.cnt ≤ 67108864 → t.slim → SF Tryz.prog W0 142 [t.av] H fun r H' => H' = H ∧ r = .int .i64 t.cnt := by
  intro N
  induction N with
  | zero =>
    intro t H hN hc hs
    refine SF.pureLe (sf_start [2] 23 Tryz.func142 rfl rfl rfl (by decide) (by simp) ?_)
    cases t with
    | none =>
      simp only [Tr.av]
      repeat' first
        | refine aSq ?_ | refine aRt ?_ | refine tN ?_ | refine tR ?_
        | refine ru ?_
        | (refine awp_if rfl (fun hb => ?_) (fun hb => ?_) <;> (try simp at hb) <;> try (exfalso; omega))
        | fail
      simp [retQ, Tr.cnt]
    | node k n a b l => simp [Tr.cnt] at hN
  | succ N ih =>
    intro t H hN hc hs
    refine SF.pureLe (sf_start [2] 23 Tryz.func142 rfl rfl rfl (by decide) (by simp) ?_)
    cases t with
    | none =>
      simp only [Tr.av]
      repeat' first
        | refine aSq ?_ | refine aRt ?_ | refine tN ?_ | refine tR ?_
        | refine ru ?_
        | (refine awp_if rfl (fun hb => ?_) (fun hb => ?_) <;> (try simp at hb) <;> try (exfalso; omega))
        | fail
      simp [retQ, Tr.cnt]
    | node k n a b l =>
      simp only [Tr.av]
      simp only [Tr.cnt] at hN hc
      simp only [Tr.slim] at hs
      repeat' first
        | refine aSq ?_ | refine aSk ?_ | refine aBl ?_ | refine tN ?_
        | refine ru ?_
        | (refine awp_if rfl (fun hb => ?_) (fun hb => ?_) <;> (try simp at hb) <;> try (exfalso; omega))
        | fail
      refine awp_loop_inv (fun m st => ∃ i : Nat, m = l.length - i ∧ i ≤ l.length ∧ Sub st ⟨23, [(3, .int .i64 (1 + Tr.cnts (l.take i) : Nat)), (13, .int .i64 i), (12, .int .i64 l.length), (11, .sl 1 (Tr.avs l) .shut)], H⟩) l.length ⟨0, by simp, by simp, ⟨rfl, rfl, only_cons (by simp [Tr.cnts]) (only_cons (by simp) (only_cons (by simp) (only_cons (by simp) only_nil)))⟩⟩ ?_
      rintro m st ⟨i, rfl, hi, hs2⟩
      refine awp_sub hs2 ?_
      clear hs2 st
      have h1 := Tr.cnts_take_le l i
      have h3 : ∀ h : i < l.length, 1 + Tr.cnts (l.take i) + (l[i]).cnt ≤ 1 + Tr.cnts l := fun h => by
        have := Tr.cnts_take l i h; have := Tr.cnts_take_le l (i + 1); omega
      repeat' first
        | refine aSq ?_ | refine aRt ?_ | refine aSk ?_ | refine aEx ?_ | refine aBl ?_ | refine tN ?_
        | (refine rg 7 ?_; refine tk 2 ?_; refine fc en142 ?_; have h4 := h3 (by assumption); refine SF.then (ih _ _ (by omega) (by omega) (Tr.slims_get _ _ _ hs.2)) ?_; refine tk 2 ?_; refine dn ?_)
        | refine ru ?_
        | (refine awp_if rfl (fun hb => ?_) (fun hb => ?_) <;> (try simp at hb) <;> try (exfalso; omega))
        | fail
      · have h4 := h3 hb
        have h5 := Tr.cnts_take l i hb
        exact ⟨l.length - (i + 1), by omega, i + 1, rfl, by omega, rfl, rfl, only_cons (by rw [h5]; simp [Int.add_assoc]) (only_cons (by simp) (only_cons (by simp) (only_cons (by simp) only_nil)))⟩
      · rw [List.take_of_length_le (by omega)]
        simp [retQ, Tr.cnt]
theorem sf34 : ∀ (N : Nat) (t : Tr) (H : Hp), t.cnt ≤ N → t.cnt ≤ 67108864 → t.slim → SF Tryz.prog W0 34 [t.av] H fun r H' => H' = H ∧ r = .int .i64 t.deep := by
  intro N
  induction N with
  | zero =>
    intro t H hN hc hs
    refine SF.pureLe (sf_start [2] 31 Tryz.func34 rfl rfl rfl (by decide) (by simp) ?_)
    cases t with
    | none =>
      simp only [Tr.av]
      repeat' first
        | refine aSq ?_ | refine aRt ?_ | refine tN ?_ | refine tR ?_
        | refine ru ?_
        | (refine awp_if rfl (fun hb => ?_) (fun hb => ?_) <;> (try simp at hb) <;> try (exfalso; omega))
        | fail
      simp [retQ, Tr.deep]
    | node k n a b l => simp [Tr.cnt] at hN
  | succ N ih =>
    intro t H hN hc hs
    refine SF.pureLe (sf_start [2] 31 Tryz.func34 rfl rfl rfl (by decide) (by simp) ?_)
    cases t with
    | none =>
      simp only [Tr.av]
      repeat' first
        | refine aSq ?_ | refine aRt ?_ | refine tN ?_ | refine tR ?_
        | refine ru ?_
        | (refine awp_if rfl (fun hb => ?_) (fun hb => ?_) <;> (try simp at hb) <;> try (exfalso; omega))
        | fail
      simp [retQ, Tr.deep]
    | node k n a b l =>
      simp only [Tr.av]
      simp only [Tr.cnt] at hN hc
      simp only [Tr.slim] at hs
      have h6 := Tr.deeps_le l
      repeat' first
        | refine aSq ?_ | refine aSk ?_ | refine aBl ?_ | refine tN ?_
        | refine ru ?_
        | (refine awp_if rfl (fun hb => ?_) (fun hb => ?_) <;> (try simp at hb) <;> try (exfalso; omega))
        | fail
      refine awp_loop_inv (fun m st => ∃ i : Nat, m = l.length - i ∧ i ≤ l.length ∧ Sub st ⟨31, [(3, .int .i64 (Tr.deeps (l.take i) : Nat)), (4, .int .i64 i), (0, (Tr.node k n a b l).av)], H⟩) l.length ⟨0, by simp, by simp, ⟨rfl, rfl, only_cons (by simp [Tr.deeps]) (only_cons (by simp) (only_cons (by simp [Tr.av]) only_nil))⟩⟩ ?_
      rintro m st ⟨i, rfl, hi, hs2⟩
      refine awp_sub hs2 ?_
      clear hs2 st
      simp only [Tr.av]
      repeat' first
        | refine aSq ?_ | refine aRt ?_ | refine aSk ?_ | refine aEx ?_ | refine aBl ?_ | refine tN ?_
        | (refine rg 7 ?_; refine tk 7 ?_; refine fc en34 ?_; have h4 := Tr.cnts_le l i (by assumption); refine SF.then (ih _ _ (by omega) (by omega) (Tr.slims_get _ _ _ hs.2)) ?_; refine tk 1 ?_; refine dn ?_)
        | refine ru ?_
        | (refine awp_if rfl (fun hb => ?_) (fun hb => ?_) <;> (try simp at hb) <;> try (exfalso; omega))
        | fail
      · have h5 := Tr.deeps_take l i (by assumption)
        exact ⟨l.length - (i + 1), by omega, i + 1, rfl, by omega, rfl, rfl, only_cons (by rw [h5, Nat.max_eq_right (by omega)]; simp) (only_cons (by simp (disch := omega)) (only_cons (by simp [Tr.av]) only_nil))⟩
      · have h5 := Tr.deeps_take l i (by assumption)
        exact ⟨l.length - (i + 1), by omega, i + 1, rfl, by omega, rfl, rfl, only_cons (by rw [h5, Nat.max_eq_left (by omega)]; simp) (only_cons (by simp (disch := omega)) (only_cons (by simp [Tr.av]) only_nil))⟩
      · rw [List.take_of_length_le (by omega)]
        simp (disch := omega) [retQ, Tr.deep]
end Go.Av
namespace Go.Av
open Go.Proofs
variable {W0 : World}
set_option maxRecDepth 10000
theorem sf101 : ∀ (N : Nat) (t : Tr) (H : Hp), t.cnt ≤ N → t.cnt ≤ 67108864 → t.slim → SF Tryz.prog W0 101 [t.av] H fun r H' => H' = H ∧ r = .int .i64 t.deep := by
  intro N
  induction N with
  | zero =>
    intro t H hN hc hs
    refine SF.pureLe (sf_start [2] 24 Tryz.func101 rfl rfl rfl (by decide) (by simp) ?_)
    cases t with
    | none =>
      simp only [Tr.av]
      repeat' first
        | refine aSq ?_ | refine aRt ?_ | refine tN ?_ | refine tR ?_
        | refine ru ?_
        | (refine awp_if rfl (fun hb => ?_) (fun hb => ?_) <;> (try simp at hb) <;> try (exfalso; omega))
        | fail
      simp [retQ, Tr.deep]
    | node k n a b l => simp [Tr.cnt] at hN
  | succ N ih =>
    intro t H hN hc hs
    refine SF.pureLe (sf_start [2] 24 Tryz.func101 rfl rfl rfl (by decide) (by simp) ?_)
    cases t with
    | none =>
      simp only [Tr.av]
      repeat' first
        | refine aSq ?_ | refine aRt ?_ | refine tN ?_ | refine tR ?_
        | refine ru ?_
        | (refine awp_if rfl (fun hb => ?_) (fun hb => ?_) <;> (try simp at hb) <;> try (exfalso; omega))
        | fail
      simp [retQ, Tr.deep]
    | node k n a b l =>
      simp only [Tr.av]
      simp only [Tr.cnt] at hN hc
      simp only [Tr.slim] at hs
      have h6 := Tr.deeps_le l
      repeat' first
        | refine aSq ?_ | refine aSk ?_ | refine aBl ?_ | refine tN ?_
        | refine ru ?_
        | (refine awp_if rfl (fun hb => ?_) (fun hb => ?_) <;> (try simp at hb) <;> try (exfalso; omega))
        | fail
      refine awp_loop_inv (fun m st => ∃ i : Nat, m = l.length - i ∧ i ≤ l.length ∧ Sub st ⟨24, [(3, .int .i64 (Tr.deeps (l.take i) : Nat)), (13, .int .i64 i), (12, .int .i64 l.length), (11, .sl 1 (Tr.avs l) .shut)], H⟩) l.length ⟨0, by simp, by simp, ⟨rfl, rfl, only_cons (by simp [Tr.deeps]) (only_cons (by simp) (only_cons (by simp) (only_cons (by simp) only_nil)))⟩⟩ ?_
      rintro m st ⟨i, rfl, hi, hs2⟩
      refine awp_sub hs2 ?_
      clear hs2 st
      repeat' first
        | refine aSq ?_ | refine aRt ?_ | refine aSk ?_ | refine aEx ?_ | refine aBl ?_ | refine tN ?_
        | (refine rg 7 ?_; refine tk 2 ?_; refine fc en101 ?_; have h4 := Tr.cnts_le l i (by assumption); refine SF.then (ih _ _ (by omega) (by omega) (Tr.slims_get _ _ _ hs.2)) ?_; refine tk 2 ?_; refine dn ?_)
        | refine ru ?_
        | (refine awp_if rfl (fun hb => ?_) (fun hb => ?_) <;> (try simp at hb) <;> try (exfalso; omega))
        | fail
      · have h5 := Tr.deeps_take l i (by assumption)
        exact ⟨l.length - (i + 1), by omega, i + 1, rfl, by omega, rfl, rfl, only_cons (by
          rw [h5]; simp
          split
          · rw [Nat.max_eq_right (by omega)]; simp
          · rw [Nat.max_eq_left (by omega)]; simp) (only_cons (by simp (disch := omega)) (only_cons (by simp) (only_cons (by simp) only_nil)))⟩
      · rw [List.take_of_length_le (by omega)]
        simp (disch := omega) [retQ, Tr.deep, Int.add_comm]
theorem any_take_succ {α : Type} (p : α → Bool) (l : List α) (i : Nat) (h : i < l.length) : (l.take (i + 1)).any p = ((l.take i).any p || p l[i]) := by
  rw [List.take_add_one, List.any_append, List.getElem?_eq_getElem h]; simp
theorem any_of_take {α : Type} (p : α → Bool) (l : List α) (i : Nat) (h : (l.take i).any p = true) : l.any p = true := by
  obtain ⟨x, hx, hp⟩ := List.any_eq_true.1 h
  exact List.any_eq_true.2 ⟨x, List.mem_of_mem_take hx, hp⟩
theorem sf199 {l : List Tr} {own : Own} {H : Hp} {f : FuncId} {caps : List AV} {p : Tr → Bool} (hl : l.length ≤ 67108864) (hen : enters Tryz.prog f)
    (hf : ∀ t ∈ l, SF Tryz.prog W0 f (t.av :: caps) H fun r H' => H' = H ∧ r = .bool (p t)) :
    SF Tryz.prog W0 199 [.sl 1 (Tr.avs l) own, .fn f caps] H fun r H' => H' = H ∧ ∃ v : Int, r = .int .i64 v ∧ (0 ≤ v ↔ l.any p = true) := by
  refine SF.pureLe (sf_start [4] 19 Tryz.func199 rfl rfl rfl (by decide) (by simp) ?_)
  repeat' first
    | refine aSq ?_ | refine aBl ?_
    | refine ru ?_
    | fail
  refine awp_loop_inv (fun m st => ∃ i : Nat, m = l.length - i ∧ i ≤ l.length ∧ (l.take i).any p = false ∧ Sub st ⟨19, [(8, .int .i64 i), (7, .int .i64 l.length), (0, .sl 1 (Tr.avs l) own), (1, .fn f caps)], H⟩) l.length ⟨0, by simp, by simp, by simp, ⟨rfl, rfl, only_cons (by simp) (only_cons (by simp) (only_cons (by simp) (only_cons (by simp) only_nil)))⟩⟩ ?_
  rintro m st ⟨i, rfl, hi, hh, hs2⟩
  refine awp_sub hs2 ?_
  clear hs2 st
  repeat' first
    | refine aSq ?_ | refine aRt ?_ | refine aSk ?_ | refine aEx ?_ | refine aBl ?_ | refine tN ?_ | refine tR ?_ | refine iR ?_
    | (refine rg 4 ?_; refine tk 5 ?_; refine aops_val rfl rfl rfl rfl rfl (by assumption) (by simp; rfl) ?_; refine SF.then (hf l[i] (List.getElem_mem _)) ?_; refine dn ?_)
    | refine ru ?_
    | (refine awp_if rfl (fun hb => ?_) (fun hb => ?_) <;> (try simp at hb) <;> try (exfalso; omega))
    | fail
  · have h5 := any_take_succ p l i (by assumption)
    have h6 : l.any p = true := any_of_take p l (i + 1) (by rw [h5, hb]; simp)
    exact ⟨Gr.refl _, .int .i64 i, by simp, i, rfl, by simp [h6]⟩
  · have h5 := any_take_succ p l i (by assumption)
    exact ⟨l.length - (i + 1), by omega, i + 1, rfl, by omega, by rw [h5, hh, hb]; rfl, rfl, rfl, only_cons (by simp (disch := omega)) (only_cons (by simp) (only_cons (by simp) (only_cons (by simp) only_nil)))⟩
  · rw [List.take_of_length_le (by omega)] at hh
    exact ⟨Gr.refl _, .int .i64 (-1), by simp, -1, rfl, by simp [hh]⟩
theorem sf174 {l : List Tr} {own : Own} {H : Hp} {f : FuncId} {caps : List AV} {p : Tr → Bool} (hl : l.length ≤ 67108864) (hen : enters Tryz.prog f)
    (hf : ∀ t ∈ l, SF Tryz.prog W0 f (t.av :: caps) H fun r H' => H' = H ∧ r = .bool (p t)) :
    SF Tryz.prog W0 174 [.sl 1 (Tr.avs l) own, .fn f caps] H fun r H' => H' = H ∧ r = .bool (l.any p) := by
  refine SF.pureLe (sf_start [4] 9 Tryz.func174 rfl rfl rfl (by decide) (by simp) ?_)
  repeat' first
    | refine aSq ?_ | refine aRt ?_
    | (refine rg 1 ?_; refine tk 2 ?_; refine fc en199 ?_; refine (sf199 hl hen hf).mono ?_; rintro r H1 ⟨rfl, v, rfl, hv⟩; refine tk 2 ?_; refine dn ?_)
    | refine ru ?_
    | fail
  have h5 : decide (0 ≤ v) = l.any p := by rw [Bool.eq_iff_iff]; simpa using hv
  exact ⟨Gr.refl _, .bool (l.any p), by simp [h5], rfl⟩
theorem sf89 {l : List Str} {own : Own} {H : Hp} {f : FuncId} {caps : List AV} {p : Str → Bool} (hl : l.length ≤ 67108864) (hen : enters Tryz.prog f)
    (hf : ∀ t ∈ l, SF Tryz.prog W0 f (.str t :: caps) H fun r H' => H' = H ∧ r = .bool (p t)) :
    SF Tryz.prog W0 89 [.sl 1 (strs l) own, .fn f caps] H fun r H' => H' = H ∧ ∃ v : Int, r = .int .i64 v ∧ (0 ≤ v ↔ l.any p = true) := by
  refine SF.pureLe (sf_start [4] 19 Tryz.func89 rfl rfl rfl (by decide) (by simp) ?_)
  repeat' first
    | refine aSq ?_ | refine aBl ?_
    | refine ru ?_
    | fail
  refine awp_loop_inv (fun m st => ∃ i : Nat, m = l.length - i ∧ i ≤ l.length ∧ (l.take i).any p = false ∧ Sub st ⟨19, [(8, .int .i64 i), (7, .int .i64 l.length), (0, .sl 1 (strs l) own), (1, .fn f caps)], H⟩) l.length ⟨0, by simp, by simp, by simp, ⟨rfl, rfl, only_cons (by simp) (only_cons (by simp) (only_cons (by simp) (only_cons (by simp) only_nil)))⟩⟩ ?_
  rintro m st ⟨i, rfl, hi, hh, hs2⟩
  refine awp_sub hs2 ?_
  clear hs2 st
  repeat' first
    | refine aSq ?_ | refine aRt ?_ | refine aSk ?_ | refine aEx ?_ | refine aBl ?_ | refine tN ?_ | refine tR ?_ | refine iR ?_
    | (refine rg 4 ?_; refine tk 5 ?_; refine aops_val rfl rfl rfl rfl rfl (by assumption) (by simp; rfl) ?_; refine SF.then (hf l[i] (List.getElem_mem _)) ?_; refine dn ?_)
    | refine ru ?_
    | (refine awp_if rfl (fun hb => ?_) (fun hb => ?_) <;> (try simp at hb) <;> try (exfalso; omega))
    | fail
  · have h5 := any_take_succ p l i (by assumption)
    have h6 : l.any p = true := any_of_take p l (i + 1) (by rw [h5, hb]; simp)
    exact ⟨Gr.refl _, .int .i64 i, by simp, i, rfl, by simp [h6]⟩
  · have h5 := any_take_succ p l i (by assumption)
    exact ⟨l.length - (i + 1), by omega, i + 1, rfl, by omega, by rw [h5, hh, hb]; rfl, rfl, rfl, only_cons (by simp (disch := omega)) (only_cons (by simp) (only_cons (by simp) (only_cons (by simp) only_nil)))⟩
  · rw [List.take_of_length_le (by omega)] at hh
    exact ⟨Gr.refl _, .int .i64 (-1), by simp, -1, rfl, by simp [hh]⟩
theorem sf44 {l : List Str} {own : Own} {H : Hp} {f : FuncId} {caps : List AV} {p : Str → Bool} (hl : l.length ≤ 67108864) (hen : enters Tryz.prog f)
    (hf : ∀ t ∈ l, SF Tryz.prog W0 f (.str t :: caps) H fun r H' => H' = H ∧ r = .bool (p t)) :
    SF Tryz.prog W0 44 [.sl 1 (strs l) own, .fn f caps] H fun r H' => H' = H ∧ r = .bool (l.any p) := by
  refine SF.pureLe (sf_start [4] 9 Tryz.func44 rfl rfl rfl (by decide) (by simp) ?_)
  repeat' first
    | refine aSq ?_ | refine aRt ?_
    | (refine rg 1 ?_; refine tk 2 ?_; refine fc en89 ?_; refine (sf89 hl hen hf).mono ?_; rintro r H1 ⟨rfl, v, rfl, hv⟩; refine tk 2 ?_; refine dn ?_)
    | refine ru ?_
    | fail
  have h5 : decide (0 ≤ v) = l.any p := by rw [Bool.eq_iff_iff]; simpa using hv
  exact ⟨Gr.refl _, .bool (l.any p), by simp [h5], rfl⟩
theorem sf141 : ∀ (N : Nat) (t : Tr) (H : Hp), t.cnt ≤ N → t.slim → SF Tryz.prog W0 141 [t.av] H fun r H' => H' = H ∧ r = .bool (!t.hole) := by
  intro N
  induction N with
  | zero =>
    intro t H hN hs
    refine SF.pureLe (sf_start [2] 13 Tryz.func141 rfl rfl rfl (by decide) (by simp) ?_)
    cases t with
    | none =>
      simp only [Tr.av]
      repeat' first
        | refine aSq ?_ | refine aRt ?_
        | (refine rg 1 ?_; refine tk 2 ?_; (first | (refine te (fun hb => ?_) (fun hb => ?_) <;> (try simp at hb) <;> try (exfalso; omega)) | (refine tk 1 ?_)); all_goals (refine tk 4 ?_; (first | (refine fg en174 ?_; refine SF.then (sf174 ..) ?_) | (refine tk 1 ?_)); refine tk 3 ?_; refine dn ?_))
        | refine ru ?_
        | fail
      all_goals simp [retQ, Tr.hole]
    | node k n a b l => simp [Tr.cnt] at hN
  | succ N ih =>
    intro t H hN hs
    refine SF.pureLe (sf_start [2] 13 Tryz.func141 rfl rfl rfl (by decide) (by simp) ?_)
    cases t with
    | none =>
      simp only [Tr.av]
      repeat' first
        | refine aSq ?_ | refine aRt ?_
        | (refine rg 1 ?_; refine tk 2 ?_; (first | (refine te (fun hb => ?_) (fun hb => ?_) <;> (try simp at hb) <;> try (exfalso; omega)) | (refine tk 1 ?_)); all_goals (refine tk 4 ?_; (first | (refine fg en174 ?_; refine SF.then (sf174 ..) ?_) | (refine tk 1 ?_)); refine tk 3 ?_; refine dn ?_))
        | refine ru ?_
        | fail
      all_goals simp [retQ, Tr.hole]
    | node k n a b l =>
      simp only [Tr.av]
      simp only [Tr.cnt] at hN
      simp only [Tr.slim] at hs
      have hf : ∀ t ∈ l, SF Tryz.prog W0 175 (t.av :: []) H fun r H' => H' = H ∧ r = .bool t.hole := by
        intro t ht
        obtain ⟨i, hi, rfl⟩ := List.getElem_of_mem ht
        refine SF.pureLe (sf_start [2] 6 Tryz.func175 rfl rfl rfl (by decide) (by simp) ?_)
        repeat' first
          | refine aSq ?_ | refine aRt ?_
          | (refine rg 1 ?_; refine tk 1 ?_; refine fc en141 ?_; have h4 := Tr.cnts_le l i hi; refine SF.then (ih _ _ (by omega) (Tr.slims_get _ _ _ hs.2)) ?_; refine tk 2 ?_; refine dn ?_)
          | refine ru ?_
          | fail
        simp [retQ]
      repeat' first
        | refine aSq ?_ | refine aRt ?_
        | (refine rg 1 ?_; refine tk 2 ?_; (first | (refine te (fun hb => ?_) (fun hb => ?_) <;> (try simp at hb) <;> try (exfalso; omega)) | (refine tk 1 ?_)); all_goals (refine tk 4 ?_; (first | (refine fg en174 ?_; refine SF.then (sf174 hs.1 en175 hf) ?_) | (refine tk 1 ?_)); refine tk 3 ?_; refine dn ?_))
        | refine ru ?_
        | fail
      have h5 : ∀ l : List Tr, l.any Tr.hole = Tr.holes l := by
        intro l; induction l with
        | nil => rfl
        | cons t l ih => simp [Tr.holes, ih]
      all_goals simp [retQ, Tr.hole, h5]
end Go.Av
namespace Go.Av
open Go.Proofs
variable {W0 : World}
set_option maxRecDepth 10000
set_option maxHeartbeats 4000000
@[simp] theorem set_concat {α : Type} (l : List α) (x y : α) : (l ++ [x]).set l.length y = l ++ [y] := by
  rw [List.set_append_right _ _ (Nat.le_refl _)]; simp
@[simp] theorem get_concat {α : Type} (l : List α) (x : α) : (l ++ [x])[l.length]? = some x := by simp
structure PRow where
  k : Int
  n : Int
  a : Str
  b : Str
  ks : List Int
def PRow.av (r : PRow) : List AV := [.int .i64 r.k, .int .i64 r.n, .str r.a, .str r.b, .sl 1 (ints r.ks) .shut]
def prows (l : List PRow) : List (List AV) := l.map PRow.av
@[simp] theorem prows_len (l : List PRow) : (prows l).length = l.length := by simp [prows]
@[simp] theorem prows_ok (l : List PRow) : (prows l).all (fun x => x.all okCell) = true := by simp [prows, PRow.av]
@[simp] theorem prows_cln (n m : Nat) (l : List PRow) : clnLL n m (prows l) = prows l := clnLL_map (fun _ _ _ => by simp [PRow.av]) n m l
theorem clnLL_append (n m : Nat) : ∀ a b : List (List AV), clnLL n m (a ++ b) = clnLL n m a ++ clnLL n m b
  | [], _ => rfl
  | x :: a, b => by simp [clnLL_append n m a b]
def packE (t : Tr) : Int := if t.hole then 1 else if 8192 < t.cnt then 3 else 0
end Go.Av
namespace Go.Av
open Go.Proofs
variable {W0 : World}
set_option maxRecDepth 10000
set_option maxHeartbeats 4000000
def bareT (n : Int) (a b : Str) (x y z : Bool) : Bool := (x || decide (a = [])) && (y || decide (b = [])) && (z || n == 0)
theorem sf102 {H : Hp} {k n : Int} {a b : Str} {l : List Tr} {x y z : Bool} :
    SF Tryz.prog W0 102 [(Tr.node k n a b l).av, .bool x, .bool y, .bool z] H fun r H' => H' = H ∧ r = .bool (bareT n a b x y z) := by
  refine SF.pureLe (sf_start [8] 37 Tryz.func102 rfl rfl rfl (by decide) (by simp) ?_)
  simp only [Tr.av]
  repeat' first
    | refine aSq ?_ | refine aRt ?_
    | (refine rg 1 ?_; refine tk 1 ?_; (first | (refine te (fun hb => ?_) (fun hb => ?_) <;> (try simp at hb) <;> try (exfalso; omega)) | (refine tk 1 ?_)); all_goals (refine tk 6 ?_; (first | (refine te (fun hb => ?_) (fun hb => ?_) <;> (try simp at hb) <;> try (exfalso; omega)) | (refine tk 1 ?_)); all_goals (refine tk 1 ?_; (first | (refine te (fun hb => ?_) (fun hb => ?_) <;> (try simp at hb) <;> try (exfalso; omega)) | (refine tk 1 ?_)); all_goals (refine tk 7 ?_; (first | (refine te (fun hb => ?_) (fun hb => ?_) <;> (try simp at hb) <;> try (exfalso; omega)) | (refine tk 1 ?_)); all_goals (refine tk 1 ?_; (first | (refine te (fun hb => ?_) (fun hb => ?_) <;> (try simp at hb) <;> try (exfalso; omega)) | (refine tk 1 ?_)); all_goals (refine tk 8 ?_; refine dn ?_))))))
    | refine ru ?_
    | fail
  all_goals (simp [retQ, bareT, *])
theorem all_take_succ {α : Type} (p : α → Bool) (l : List α) (i : Nat) (h : i < l.length) : (l.take (i + 1)).all p = ((l.take i).all p && p l[i]) := by
  rw [List.take_add_one, List.all_append, List.getElem?_eq_getElem h]; simp
theorem all_of_take {α : Type} (p : α → Bool) (l : List α) (i : Nat) (h : (l.take i).all p = false) : l.all p = false := by
  cases h2 : l.all p with
  | false => rfl
  | true =>
    rw [List.all_eq_true] at h2
    have : (l.take i).all p = true := List.all_eq_true.2 fun x hx => h2 x (List.mem_of_mem_take hx)
    rw [this] at h; cases h
theorem sf103 {k n : Int} {a b : Str} {l : List Tr} {m : Nat} {H : Hp} {f : FuncId} {caps : List AV} {p : Tr → Bool} (hl : l.length ≤ 67108864) (hm : m ≤ l.length) (hen : enters Tryz.prog f)
    (hf : ∀ t ∈ l, SF Tryz.prog W0 f (t.av :: caps) H fun r H' => H' = H ∧ r = .bool (p t)) :
    SF Tryz.prog W0 103 [(Tr.node k n a b l).av, .int .i64 m, .fn f caps] H fun r H' => H' = H ∧ r = .bool ((l.drop m).all p) := by
  refine SF.pureLe (sf_start [6] 25 Tryz.func103 rfl rfl rfl (by decide) (by simp) ?_)
  simp only [Tr.av]
  repeat' first
    | refine aSq ?_ | refine aBl ?_
    | (refine ru ?_ (by simp (disch := omega) [hm]; with_reducible rfl))
    | fail
  refine awp_loop_inv (fun q st => ∃ i : Nat, q = (l.drop m).length - i ∧ i ≤ (l.drop m).length ∧ ((l.drop m).take i).all p = true ∧ Sub st ⟨25, [(16, .int .i64 i), (15, .int .i64 (l.drop m).length), (14, .sl 1 (Tr.avs (l.drop m)) .shut), (2, .fn f caps)], H⟩) (l.drop m).length ⟨0, by simp, by simp, by simp, ⟨rfl, rfl, only_cons (by simp) (only_cons (by simp) (only_cons (by simp) (only_cons (by simp) only_nil)))⟩⟩ ?_
  rintro q st ⟨i, rfl, hi, hh, hs2⟩
  refine awp_sub hs2 ?_
  clear hs2 st
  have hf2 : ∀ t ∈ l.drop m, SF Tryz.prog W0 f (t.av :: caps) H fun r H' => H' = H ∧ r = .bool (p t) := fun t ht => hf t (List.mem_of_mem_drop ht)
  have hl2 : (l.drop m).length ≤ 67108864 := by simp; omega
  generalize l.drop m = d at *
  repeat' first
    | refine aSq ?_ | refine aRt ?_ | refine aSk ?_ | refine aEx ?_ | refine aBl ?_ | refine tN ?_ | refine tR ?_ | refine iR ?_
    | (refine rg 4 ?_; refine tk 2 ?_; refine aops_val rfl rfl rfl rfl rfl (by assumption) (by simp; rfl) ?_; refine SF.then (hf2 d[i] (List.getElem_mem _)) ?_; refine tk 1 ?_; refine dn ?_)
    | refine ru ?_
    | (refine awp_if rfl (fun hb => ?_) (fun hb => ?_) <;> (try simp at hb) <;> try (exfalso; omega))
    | fail
  · have h5 := all_take_succ p d i (by assumption)
    have h6 : d.all p = false := all_of_take p d (i + 1) (by rw [h5, hb]; simp)
    simp [retQ, h6]
  · have h5 := all_take_succ p d i (by assumption)
    exact ⟨d.length - (i + 1), by omega, i + 1, rfl, by omega, by rw [h5, hh, hb]; rfl, rfl, rfl, only_cons (by simp (disch := omega)) (only_cons (by simp) (only_cons (by simp) (only_cons (by simp) only_nil)))⟩
  · rw [List.take_of_length_le (by omega)] at hh
    simp [retQ, hh]
end Go.Av
namespace Go.Av
open Go.Proofs
variable {W0 : World}
set_option maxRecDepth 10000
set_option maxHeartbeats 4000000
structure Form where
  f : FuncId
  caps : List AV
  p : Tr → Bool
def forms (l : List Form) : List (List AV) := l.map fun F => [.fn F.f F.caps]
@[simp] theorem forms_len (l : List Form) : (forms l).length = l.length := by simp [forms]
@[simp] theorem forms_get (l : List Form) (i : Nat) : (forms l)[i]? = (l[i]?).map fun F => [.fn F.f F.caps] := by simp [forms]
@[simp] theorem forms_getE (l : List Form) (i : Nat) (h : i < (forms l).length) : (forms l)[i] = [.fn (l[i]'(by simpa using h)).f (l[i]'(by simpa using h)).caps] := by simp [forms]
theorem sf144 {k n : Int} {a b : Str} {l : List Tr} {fs : List Form} {own : Own} {H : Hp} (hl : l.length ≤ 67108864) (hen : ∀ F ∈ fs, enters Tryz.prog F.f)
    (hf : ∀ F ∈ fs, ∀ t ∈ l, SF Tryz.prog W0 F.f (t.av :: F.caps) H fun r H' => H' = H ∧ r = .bool (F.p t)) :
    SF Tryz.prog W0 144 [(Tr.node k n a b l).av, .sl 1 (forms fs) own] H fun r H' => H' = H ∧ ∃ ok : Bool, r = .bool ok ∧
      (ok = true ↔ l.length = fs.length ∧ ∀ j (h1 : j < l.length) (h2 : j < fs.length), (fs[j]).p l[j] = true) := by
  refine SF.pureLe (sf_start [4] 33 Tryz.func144 rfl rfl rfl (by decide) (by simp) ?_)
  simp only [Tr.av]
  repeat' first
    | refine aSq ?_ | refine aRt ?_ | refine aSk ?_ | refine aBl ?_ | refine tN ?_ | refine tR ?_
    | refine ru ?_
    | (refine awp_if rfl (fun hb => ?_) (fun hb => ?_) <;> (try simp at hb) <;> try (exfalso; omega))
    | fail
  · exact ⟨Gr.refl _, .bool false, by simp, false, rfl, by simp; intro h; exact absurd h (by omega)⟩
  have hlen : l.length = fs.length := by omega
  refine awp_loop_inv (fun q st => ∃ i : Nat, q = fs.length - i ∧ i ≤ fs.length ∧ (∀ j (h1 : j < l.length) (h2 : j < fs.length), j < i → (fs[j]).p l[j] = true) ∧ Sub st ⟨33, [(17, .int .i64 i), (16, .int .i64 fs.length), (15, .sl 1 (forms fs) own), (0, (Tr.node k n a b l).av)], H⟩) fs.length ⟨0, by simp, by simp, by simp, ⟨rfl, rfl, only_cons (by simp) (only_cons (by simp) (only_cons (by simp) (only_cons (by simp [Tr.av]) only_nil)))⟩⟩ ?_
  rintro q st ⟨i, rfl, hi, hh, hs2⟩
  refine awp_sub hs2 ?_
  clear hs2 st
  simp only [Tr.av]
  rcases Nat.lt_or_ge i fs.length with hi2 | hi2
  · have hen2 := hen _ (List.getElem_mem hi2)
    have hi3 : i < l.length := by omega
    repeat' first
      | refine aSq ?_ | refine aRt ?_ | refine aSk ?_ | refine aBl ?_ | refine tN ?_ | refine tR ?_ | refine iR ?_
      | (refine rg 6 ?_; refine tk 8 ?_; refine aops_val rfl rfl rfl rfl rfl (by assumption) (by simp; rfl) ?_; refine SF.then (hf fs[i] (List.getElem_mem _) l[i] (List.getElem_mem _)) ?_; refine tk 1 ?_; refine dn ?_)
      | refine ru ?_
      | (refine awp_if rfl (fun hb => ?_) (fun hb => ?_) <;> (try simp at hb) <;> try (exfalso; omega))
      | fail
    · refine ⟨Gr.refl _, .bool false, by simp, false, rfl, ?_⟩
      simp only [Bool.false_eq_true, false_iff, not_and]
      intro _ h2
      rw [h2 i hi3 hi2] at hb; cases hb
    · refine ⟨fs.length - (i + 1), by omega, i + 1, rfl, by omega, fun j h1 h2 hj => ?_, rfl, rfl, only_cons (by simp (disch := omega)) (only_cons (by simp) (only_cons (by simp) (only_cons (by simp [Tr.av]) only_nil)))⟩
      rcases Nat.lt_or_ge j i with q | q
      · exact hh j h1 h2 q
      · have : j = i := by omega
        subst this; exact hb
  · repeat' first
      | refine aSq ?_ | refine aRt ?_ | refine aEx ?_
      | refine ru ?_
      | (refine awp_if rfl (fun hb => ?_) (fun hb => ?_) <;> (try simp at hb) <;> try (exfalso; omega))
      | fail
    exact ⟨Gr.refl _, .bool true, by simp, true, rfl, by simp; exact ⟨hlen, fun j h1 h2 => hh j h1 h2 (by omega)⟩⟩
end Go.Av
namespace Go.Av
open Go.Proofs
variable {W0 : World}
set_option maxRecDepth 10000
set_option maxHeartbeats 4000000
theorem sf32 {kind : Int} {name : Str} {l : List Tr} {own : Own} {H : Hp} :
    SF Tryz.prog W0 32 [.int .i64 kind, .str name, .sl 1 (Tr.avs l) own] H fun r H' => H' = H ∧ r = (Tr.node kind 0 name [] l).av := by
  refine SF.pureLe (sf_start [6] 12 Tryz.func32 rfl rfl rfl (by decide) (by simp) ?_)
  repeat' first
    | refine aSq ?_ | refine aRt ?_
    | refine ru ?_
    | fail
  exact ⟨Gr.refl _, _, by simp [Tr.av]; exact .ptr (.cons (.refl _) (.cons (.refl _) (.cons (.refl _) (.cons (.refl _) (.cons (.shut _ _ _) .nil))))), rfl⟩
theorem sf227 {n : Int} {t u : Tr} {H : Hp} :
    SF Tryz.prog W0 227 [.int .i64 n, t.av, u.av] H fun r H' => H' = H ∧ r = (Tr.node 31 n [] [] [t, u]).av := by
  refine SF.pureLe (sf_start [6] 13 Tryz.func227 rfl rfl rfl (by decide) (by simp) ?_)
  repeat' first
    | refine aSq ?_ | refine aRt ?_
    | refine ru ?_
    | fail
  exact ⟨Gr.refl _, _, by simp [Tr.av, Tr.avs]; exact .ptr (.cons (.refl _) (.cons (.refl _) (.cons (.refl _) (.cons (.refl _) (.cons (.shut _ _ _) .nil))))), rfl⟩
end Go.Av
namespace Go.Av
open Go.Proofs
variable {W0 : World}
set_option maxRecDepth 10000
set_option maxHeartbeats 4000000
structure Tok where
  kind : Int
  text : Str
  n : Int
  at' : Int
def Tok.av (t : Tok) : List AV := [.int .i64 t.kind, .str t.text, .int .i64 t.n, .int .i64 t.at']
def toks (l : List Tok) : List (List AV) := l.map Tok.av
@[simp] theorem toks_len (l : List Tok) : (toks l).length = l.length := by simp [toks]
@[simp] theorem toks_get (l : List Tok) (i : Nat) : (toks l)[i]? = (l[i]?).map fun t => [.int .i64 t.kind, .str t.text, .int .i64 t.n, .int .i64 t.at'] := by simp [toks]; rfl
@[simp] theorem toks_getE (l : List Tok) (i : Nat) (h : i < (toks l).length) : (toks l)[i] = [.int .i64 (l[i]'(by simpa using h)).kind, .str (l[i]'(by simpa using h)).text, .int .i64 (l[i]'(by simpa using h)).n, .int .i64 (l[i]'(by simpa using h)).at'] := by simp [toks, Tok.av]
@[simp] theorem toks_ok (l : List Tok) : (toks l).all (fun x => x.all okCell) = true := by simp [toks, Tok.av]
@[simp] theorem toks_cln (n m : Nat) (l : List Tok) : clnLL n m (toks l) = toks l := clnLL_map (fun _ _ _ => by simp [Tok.av]) n m l
def keyAt (l : List Tok) (i : Nat) (s : Str) : Bool := match l[i]? with | some t => decide (t.kind = 3) && (t.text == s) | none => false
theorem sf138 {l : List Tok} {own : Own} {i : Nat} {s : Str} {H : Hp} :
    SF Tryz.prog W0 138 [.sl 4 (toks l) own, .int .i64 i, .str s] H fun r H' => H' = H ∧ r = .bool (keyAt l i s) := by
  refine SF.pureLe (sf_start [6] 32 Tryz.func138 rfl rfl rfl (by decide) (by simp) ?_)
  repeat' first
    | refine aSq ?_ | refine aRt ?_
    | (refine rg 1 ?_; refine tk 2 ?_; (first | (refine te (fun hb => ?_) (fun hb => ?_) <;> (try simp at hb) <;> try (exfalso; omega)) | (refine tk 1 ?_)); all_goals (refine tk 5 ?_; (first | (refine te (fun hb => ?_) (fun hb => ?_) <;> (try simp at hb) <;> try (exfalso; omega)) | (refine tk 1 ?_)); all_goals (refine tk 7 ?_; (first | (refine te (fun hb => ?_) (fun hb => ?_) <;> (try simp at hb) <;> try (exfalso; omega)) | (refine tk 1 ?_)); all_goals (refine tk 9 ?_; refine dn ?_))))
    | refine ru ?_
    | fail
  all_goals (simp (disch := omega) [retQ, keyAt, List.getElem?_eq_none, *])
end Go.Av
namespace Go.Av
open Go.Proofs
variable {W0 : World}
set_option maxRecDepth 10000
set_option maxHeartbeats 4000000
theorem keyAt_lt {l : List Tok} {i : Nat} {s : Str} (h : keyAt l i s = true) : i < l.length := by
  rcases Nat.lt_or_ge i l.length with q | q
  · exact q
  · simp [keyAt, List.getElem?_eq_none q] at h
theorem sf223 {l : List Tok} {own o2 : Own} {i : Nat} {ws : List Str} {H : Hp} (hi : i ≤ 67108864) (hw : ws.length ≤ 67108864) (hl : l.length ≤ 67108864) :
    SF Tryz.prog W0 223 [.sl 4 (toks l) own, .int .i64 i, .sl 1 (strs ws) o2] H fun r H' => H' = H ∧ ∃ (i' : Nat) (e : Int), r = .tuple [.int .i64 i', .int .i64 e] ∧
      i ≤ i' ∧ i' ≤ i + ws.length ∧ (e = 0 → i' = i + ws.length) ∧ (i ≤ l.length → i' ≤ l.length) := by
  refine SF.pureLe (sf_start [6, 7] 27 Tryz.func223 rfl rfl rfl (by decide) (by simp) ?_)
  repeat' first
    | refine aSq ?_ | refine aBl ?_
    | refine ru ?_
    | fail
  refine awp_loop_inv (fun q st => ∃ k : Nat, q = ws.length - k ∧ k ≤ ws.length ∧ (i ≤ l.length → i + k ≤ l.length) ∧ Sub st ⟨27, [(8, .int .i64 k), (1, .int .i64 (i + k : Nat)), (0, .sl 4 (toks l) own), (2, .sl 1 (strs ws) o2)], H⟩) ws.length ⟨0, by simp, by simp, by simp, ⟨rfl, rfl, only_cons (by simp) (only_cons (by simp) (only_cons (by simp) (only_cons (by simp) only_nil)))⟩⟩ ?_
  rintro q st ⟨k, rfl, hk, hil, hs2⟩
  refine awp_sub hs2 ?_
  clear hs2 st
  repeat' first
    | refine aSq ?_ | refine aRt ?_ | refine aSk ?_ | refine aEx ?_ | refine aBl ?_ | refine tN ?_ | refine tR ?_ | refine iR ?_
    | (refine rg 4 ?_; refine tk 6 ?_; refine fc en138 ?_; refine SF.then sf138 ?_; refine tk 1 ?_; refine dn ?_)
    | refine ru ?_
    | (refine awp_if rfl (fun hb => ?_) (fun hb => ?_) <;> (try simp at hb) <;> try (exfalso; omega))
    | fail
  · exact ⟨Gr.refl _, .tuple [.int .i64 (i + k : Nat), .int .i64 6], by simp, i + k, 6, rfl, by omega, by omega, by omega, hil⟩
  · have := keyAt_lt hb
    exact ⟨ws.length - (k + 1), by omega, k + 1, rfl, by omega, by omega, rfl, rfl, only_cons (by simp (disch := omega)) (only_cons (by simp (disch := omega) [Int.add_assoc]) (only_cons (by simp) (only_cons (by simp) only_nil)))⟩
  · exact ⟨Gr.refl _, .tuple [.int .i64 (i + k : Nat), .int .i64 0], by simp, i + k, 0, rfl, by omega, by omega, by omega, hil⟩
end Go.Av
