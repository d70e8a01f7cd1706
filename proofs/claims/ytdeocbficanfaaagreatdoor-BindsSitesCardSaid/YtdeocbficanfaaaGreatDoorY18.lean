/-
  Go read by value: lemmas (part 18): C3, M0.
-/
import Derived.Test.YtdeocbficanfaaaGreatDoorY17
set_option linter.unusedVariables false
set_option linter.unusedSimpArgs false
set_option linter.unusedSectionVars false
namespace Go.Av
theorem isB_node (k n : Int) (a b : Str) (l : List Tr) (c : Int) : isB (.node k n a b l) c = rowsL.any (fitB k n c a b l) := by simp only [isB]; rfl
theorem zz (n : Int) (x : Bool) : (decide (0 ≤ n) && (decide (n ≤ 0) && x)) = ((n == 0) && x) := by
  by_cases h : n = 0
  · subst h; simp
  · have : (n == 0) = false := by simpa using h
    rw [this]
    by_cases h1 : 0 ≤ n
    · have h2 : ¬ n ≤ 0 := by omega
      simp [h2]
    · simp [h1]
theorem is_1_1 (n : Int) (a b : Str) (l : List Tr) : isB (.node 1 n a b l) 1 = ((decide (a = []) && (decide (b = []) && ((n == 0) && kidsB l [])))) := by
  simp [isB_node, rowsL, fitB, wordB, zz, Bool.and_assoc]
theorem is_1_2 (n : Int) (a b : Str) (l : List Tr) : isB (.node 2 n a b l) 1 = ((decide (a = []) && (decide (b = []) && ((n == 0) && kidsB l [])))) := by
  simp [isB_node, rowsL, fitB, wordB, zz, Bool.and_assoc]
theorem is_1_3 (n : Int) (a b : Str) (l : List Tr) : isB (.node 3 n a b l) 1 = ((decide (a = []) && (decide (b = []) && ((n == 0) && kidsB l [])))) := by
  simp [isB_node, rowsL, fitB, wordB, zz, Bool.and_assoc]
theorem is_1_4 (n : Int) (a b : Str) (l : List Tr) : isB (.node 4 n a b l) 1 = ((longB a && (decide (b = []) && ((n == 0) && kidsB l [])))) := by
  simp [isB_node, rowsL, fitB, wordB, zz, Bool.and_assoc]
theorem is_1_5 (n : Int) (a b : Str) (l : List Tr) : isB (.node 5 n a b l) 1 = ((decide (a = []) && (decide (b = []) && ((n == 0) && kidsB l [116, 116])))) := by
  simp [isB_node, rowsL, fitB, wordB, zz, Bool.and_assoc]
theorem is_1_6 (n : Int) (a b : Str) (l : List Tr) : isB (.node 6 n a b l) 1 = ((decide (a = []) && (decide (b = []) && ((n == 0) && kidsB l [116, 116])))) := by
  simp [isB_node, rowsL, fitB, wordB, zz, Bool.and_assoc]
theorem is_1_7 (n : Int) (a b : Str) (l : List Tr) : isB (.node 7 n a b l) 1 = ((checkB a && (decide (b = []) && ((n == 0) && kidsB l [67])))) := by
  simp [isB_node, rowsL, fitB, wordB, zz, Bool.and_assoc]
theorem is_1_else {k : Int} (n : Int) (a b : Str) (l : List Tr) (h1 : k ≠ 1) (h2 : k ≠ 2) (h3 : k ≠ 3) (h4 : k ≠ 4) (h5 : k ≠ 5) (h6 : k ≠ 6) (h7 : k ≠ 7) : isB (.node k n a b l) 1 = false := by
  simp [isB_node, rowsL, fitB, Ne.symm h1, Ne.symm h2, Ne.symm h3, Ne.symm h4, Ne.symm h5, Ne.symm h6, Ne.symm h7]
theorem is_2_20 (n : Int) (a b : Str) (l : List Tr) : isB (.node 20 n a b l) 2 = ((decide (a = []) && (decide (b = []) && (decide (-1073741824 ≤ n) && decide (n ≤ 1073741824) && kidsB l [])))) := by
  simp [isB_node, rowsL, fitB, wordB, zz, Bool.and_assoc]
theorem is_2_21 (n : Int) (a b : Str) (l : List Tr) : isB (.node 21 n a b l) 2 = ((decide (a = []) && (decide (b = []) && (decide (0 ≤ n) && decide (n ≤ 1) && kidsB l [])))) := by
  simp [isB_node, rowsL, fitB, wordB, zz, Bool.and_assoc]
theorem is_2_22 (n : Int) (a b : Str) (l : List Tr) : isB (.node 22 n a b l) 2 = ((decide (a = []) && (decide (b = []) && ((n == 0) && kidsB l [])))) := by
  simp [isB_node, rowsL, fitB, wordB, zz, Bool.and_assoc]
theorem is_2_23 (n : Int) (a b : Str) (l : List Tr) : isB (.node 23 n a b l) 2 = ((longB a && (decide (b = []) && ((n == 0) && kidsB l [])))) := by
  simp [isB_node, rowsL, fitB, wordB, zz, Bool.and_assoc]
theorem is_2_24 (n : Int) (a b : Str) (l : List Tr) : isB (.node 24 n a b l) 2 = ((checkB a && (decide (b = []) && ((n == 0) && kidsB l [116, 101])))) := by
  simp [isB_node, rowsL, fitB, wordB, zz, Bool.and_assoc]
theorem is_2_25 (n : Int) (a b : Str) (l : List Tr) : isB (.node 25 n a b l) 2 = ((decide (a = []) && (decide (b = []) && ((n == 0) && kidsB l [101, 101])))) := by
  simp [isB_node, rowsL, fitB, wordB, zz, Bool.and_assoc]
theorem is_2_26 (n : Int) (a b : Str) (l : List Tr) : isB (.node 26 n a b l) 2 = ((decide (a = []) && (decide (b = []) && ((n == 0) && kidsB l [101, 101])))) := by
  simp [isB_node, rowsL, fitB, wordB, zz, Bool.and_assoc]
theorem is_2_27 (n : Int) (a b : Str) (l : List Tr) : isB (.node 27 n a b l) 2 = ((decide (a = []) && (decide (b = []) && ((n == 0) && kidsB l [101])))) := by
  simp [isB_node, rowsL, fitB, wordB, zz, Bool.and_assoc]
theorem is_2_28 (n : Int) (a b : Str) (l : List Tr) : isB (.node 28 n a b l) 2 = ((decide (a = []) && (decide (b = []) && ((n == 0) && kidsB l [101])))) := by
  simp [isB_node, rowsL, fitB, wordB, zz, Bool.and_assoc]
theorem is_2_29 (n : Int) (a b : Str) (l : List Tr) : isB (.node 29 n a b l) 2 = ((checkB a && (decide (b = []) && ((n == 0) && kidsB l [101, 101])))) := by
  simp [isB_node, rowsL, fitB, wordB, zz, Bool.and_assoc]
theorem is_2_30 (n : Int) (a b : Str) (l : List Tr) : isB (.node 30 n a b l) 2 = ((decide (a = []) && (decide (b = []) && ((n == 0) && kidsB l [101, 101, 101])))) := by
  simp [isB_node, rowsL, fitB, wordB, zz, Bool.and_assoc]
theorem is_2_31 (n : Int) (a b : Str) (l : List Tr) : isB (.node 31 n a b l) 2 = ((decide (a = []) && (decide (b = []) && (decide (1 ≤ n) && decide (n ≤ 5) && kidsB l [101, 101])))) := by
  simp [isB_node, rowsL, fitB, wordB, zz, Bool.and_assoc]
theorem is_2_32 (n : Int) (a b : Str) (l : List Tr) : isB (.node 32 n a b l) 2 = ((decide (a = []) && (decide (b = []) && ((n == 0) && kidsB l [101, 65])))) := by
  simp [isB_node, rowsL, fitB, wordB, zz, Bool.and_assoc]
theorem is_2_33 (n : Int) (a b : Str) (l : List Tr) : isB (.node 33 n a b l) 2 = ((decide (a = []) && (decide (b = []) && ((n == 0) && kidsB l [101, 116, 65])))) := by
  simp [isB_node, rowsL, fitB, wordB, zz, Bool.and_assoc]
theorem is_2_else {k : Int} (n : Int) (a b : Str) (l : List Tr) (h20 : k ≠ 20) (h21 : k ≠ 21) (h22 : k ≠ 22) (h23 : k ≠ 23) (h24 : k ≠ 24) (h25 : k ≠ 25) (h26 : k ≠ 26) (h27 : k ≠ 27) (h28 : k ≠ 28) (h29 : k ≠ 29) (h30 : k ≠ 30) (h31 : k ≠ 31) (h32 : k ≠ 32) (h33 : k ≠ 33) : isB (.node k n a b l) 2 = false := by
  simp [isB_node, rowsL, fitB, Ne.symm h20, Ne.symm h21, Ne.symm h22, Ne.symm h23, Ne.symm h24, Ne.symm h25, Ne.symm h26, Ne.symm h27, Ne.symm h28, Ne.symm h29, Ne.symm h30, Ne.symm h31, Ne.symm h32, Ne.symm h33]
theorem is_3_40 (n : Int) (a b : Str) (l : List Tr) : isB (.node 40 n a b l) 3 = ((decide (a = []) && (decide (b = []) && ((n == 0) && kidsB l [42, 105])))) := by
  simp [isB_node, rowsL, fitB, wordB, zz, Bool.and_assoc]
theorem is_3_41 (n : Int) (a b : Str) (l : List Tr) : isB (.node 41 n a b l) 3 = ((longB a && (decide (b = []) && ((n == 0) && kidsB l [])))) := by
  simp [isB_node, rowsL, fitB, wordB, zz, Bool.and_assoc]
theorem is_3_42 (n : Int) (a b : Str) (l : List Tr) : isB (.node 42 n a b l) 3 = ((checkB a && (decide (b = []) && ((n == 0) && kidsB l [109])))) := by
  simp [isB_node, rowsL, fitB, wordB, zz, Bool.and_assoc]
theorem is_3_43 (n : Int) (a b : Str) (l : List Tr) : isB (.node 43 n a b l) 3 = ((decide (a = []) && (decide (b = []) && (decide (0 ≤ n) && decide (n ≤ 1) && kidsB l [109, 115])))) := by
  simp [isB_node, rowsL, fitB, wordB, zz, Bool.and_assoc]
theorem is_3_else {k : Int} (n : Int) (a b : Str) (l : List Tr) (h40 : k ≠ 40) (h41 : k ≠ 41) (h42 : k ≠ 42) (h43 : k ≠ 43) : isB (.node k n a b l) 3 = false := by
  simp [isB_node, rowsL, fitB, Ne.symm h40, Ne.symm h41, Ne.symm h42, Ne.symm h43]
theorem is_4_50 (n : Int) (a b : Str) (l : List Tr) : isB (.node 50 n a b l) 4 = ((decide (a = []) && (decide (b = []) && ((n == 0) && kidsB l [42, 112])))) := by
  simp [isB_node, rowsL, fitB, wordB, zz, Bool.and_assoc]
theorem is_4_51 (n : Int) (a b : Str) (l : List Tr) : isB (.node 51 n a b l) 4 = ((checkB a && (decide (b = []) && ((n == 0) && kidsB l [])))) := by
  simp [isB_node, rowsL, fitB, wordB, zz, Bool.and_assoc]
theorem is_4_52 (n : Int) (a b : Str) (l : List Tr) : isB (.node 52 n a b l) 4 = ((longB a && (decide (b = []) && ((n == 0) && kidsB l [115, 116])))) := by
  simp [isB_node, rowsL, fitB, wordB, zz, Bool.and_assoc]
theorem is_4_else {k : Int} (n : Int) (a b : Str) (l : List Tr) (h50 : k ≠ 50) (h51 : k ≠ 51) (h52 : k ≠ 52) : isB (.node k n a b l) 4 = false := by
  simp [isB_node, rowsL, fitB, Ne.symm h50, Ne.symm h51, Ne.symm h52]
theorem is_5_60 (n : Int) (a b : Str) (l : List Tr) : isB (.node 60 n a b l) 5 = ((checkB a && (decide (b = []) && ((n == 0) && kidsB l [116])))) := by
  simp [isB_node, rowsL, fitB, wordB, zz, Bool.and_assoc]
theorem is_5_61 (n : Int) (a b : Str) (l : List Tr) : isB (.node 61 n a b l) 5 = ((checkB a && (decide (b = []) && ((n == 0) && kidsB l [116]))) || (checkB a && (decide (b = []) && ((n == 0) && kidsB l [])))) := by
  simp [isB_node, rowsL, fitB, wordB, zz, Bool.and_assoc]
theorem is_5_62 (n : Int) (a b : Str) (l : List Tr) : isB (.node 62 n a b l) 5 = ((checkB a && (decide (b = []) && ((n == 0) && kidsB l [67])))) := by
  simp [isB_node, rowsL, fitB, wordB, zz, Bool.and_assoc]
theorem is_5_63 (n : Int) (a b : Str) (l : List Tr) : isB (.node 63 n a b l) 5 = ((checkB a && (decide (b = []) && ((n == 0) && kidsB l [115])))) := by
  simp [isB_node, rowsL, fitB, wordB, zz, Bool.and_assoc]
theorem is_5_64 (n : Int) (a b : Str) (l : List Tr) : isB (.node 64 n a b l) 5 = ((decide (a = []) && (decide (b = []) && ((n == 0) && kidsB l [115])))) := by
  simp [isB_node, rowsL, fitB, wordB, zz, Bool.and_assoc]
theorem is_5_65 (n : Int) (a b : Str) (l : List Tr) : isB (.node 65 n a b l) 5 = ((longB a && (longB b && ((n == 0) && kidsB l [])))) := by
  simp [isB_node, rowsL, fitB, wordB, zz, Bool.and_assoc]
theorem is_5_else {k : Int} (n : Int) (a b : Str) (l : List Tr) (h60 : k ≠ 60) (h61 : k ≠ 61) (h62 : k ≠ 62) (h63 : k ≠ 63) (h64 : k ≠ 64) (h65 : k ≠ 65) : isB (.node k n a b l) 5 = false := by
  simp [isB_node, rowsL, fitB, Ne.symm h60, Ne.symm h61, Ne.symm h62, Ne.symm h63, Ne.symm h64, Ne.symm h65]
theorem is_6_70 (n : Int) (a b : Str) (l : List Tr) : isB (.node 70 n a b l) 6 = ((checkB a && (decide (b = []) && ((n == 0) && kidsB l [101]))) || (checkB a && (decide (b = []) && ((n == 0) && kidsB l [116, 101])))) := by
  simp [isB_node, rowsL, fitB, wordB, zz, Bool.and_assoc]
theorem is_6_71 (n : Int) (a b : Str) (l : List Tr) : isB (.node 71 n a b l) 6 = ((checkB a && (decide (b = []) && ((n == 0) && kidsB l [116])))) := by
  simp [isB_node, rowsL, fitB, wordB, zz, Bool.and_assoc]
theorem is_6_72 (n : Int) (a b : Str) (l : List Tr) : isB (.node 72 n a b l) 6 = ((checkB a && (decide (b = []) && ((n == 0) && kidsB l [67])))) := by
  simp [isB_node, rowsL, fitB, wordB, zz, Bool.and_assoc]
theorem is_6_73 (n : Int) (a b : Str) (l : List Tr) : isB (.node 73 n a b l) 6 = ((checkB a && (decide (b = []) && ((n == 0) && kidsB l [109])))) := by
  simp [isB_node, rowsL, fitB, wordB, zz, Bool.and_assoc]
theorem is_6_74 (n : Int) (a b : Str) (l : List Tr) : isB (.node 74 n a b l) 6 = ((checkB a && (decide (b = []) && ((n == 0) && kidsB l [115])))) := by
  simp [isB_node, rowsL, fitB, wordB, zz, Bool.and_assoc]
theorem is_6_75 (n : Int) (a b : Str) (l : List Tr) : isB (.node 75 n a b l) 6 = ((checkB a && (checkB b && ((n == 0) && kidsB l [115, 109])))) := by
  simp [isB_node, rowsL, fitB, wordB, zz, Bool.and_assoc]
theorem is_6_76 (n : Int) (a b : Str) (l : List Tr) : isB (.node 76 n a b l) 6 = ((longB a && (decide (b = []) && ((n == 0) && kidsB l [])))) := by
  simp [isB_node, rowsL, fitB, wordB, zz, Bool.and_assoc]
theorem is_6_77 (n : Int) (a b : Str) (l : List Tr) : isB (.node 77 n a b l) 6 = ((longB a && (decide (b = []) && ((n == 0) && kidsB l [])))) := by
  simp [isB_node, rowsL, fitB, wordB, zz, Bool.and_assoc]
theorem is_6_else {k : Int} (n : Int) (a b : Str) (l : List Tr) (h70 : k ≠ 70) (h71 : k ≠ 71) (h72 : k ≠ 72) (h73 : k ≠ 73) (h74 : k ≠ 74) (h75 : k ≠ 75) (h76 : k ≠ 76) (h77 : k ≠ 77) : isB (.node k n a b l) 6 = false := by
  simp [isB_node, rowsL, fitB, Ne.symm h70, Ne.symm h71, Ne.symm h72, Ne.symm h73, Ne.symm h74, Ne.symm h75, Ne.symm h76, Ne.symm h77]
theorem is_7_80 (n : Int) (a b : Str) (l : List Tr) : isB (.node 80 n a b l) 7 = ((decide (a = []) && (decide (b = []) && ((n == 0) && kidsB l [42, 100])))) := by
  simp [isB_node, rowsL, fitB, wordB, zz, Bool.and_assoc]
theorem is_7_else {k : Int} (n : Int) (a b : Str) (l : List Tr) (h80 : k ≠ 80) : isB (.node k n a b l) 7 = false := by
  simp [isB_node, rowsL, fitB, Ne.symm h80]
theorem is_8_8 (n : Int) (a b : Str) (l : List Tr) : isB (.node 8 n a b l) 8 = ((checkB a && (decide (b = []) && ((n == 0) && kidsB l [116])))) := by
  simp [isB_node, rowsL, fitB, wordB, zz, Bool.and_assoc]
theorem is_8_else {k : Int} (n : Int) (a b : Str) (l : List Tr) (h8 : k ≠ 8) : isB (.node k n a b l) 8 = false := by
  simp [isB_node, rowsL, fitB, Ne.symm h8]
theorem is_9_34 (n : Int) (a b : Str) (l : List Tr) : isB (.node 34 n a b l) 9 = ((checkB a && (checkB b && ((n == 0) && kidsB l [101])))) := by
  simp [isB_node, rowsL, fitB, wordB, zz, Bool.and_assoc]
theorem is_9_else {k : Int} (n : Int) (a b : Str) (l : List Tr) (h34 : k ≠ 34) : isB (.node k n a b l) 9 = false := by
  simp [isB_node, rowsL, fitB, Ne.symm h34]
def plainB (w : Str) : Bool := w.all fun c => c != 42 && (c != 67 && c != 65)
theorem kidsB_plain : ∀ (w : Str) (l : List Tr), plainB w = true → (kidsB l w = true ↔ l.length = w.length ∧ ∀ j (h1 : j < l.length) (h2 : j < w.length), isB l[j] (catB w[j]) = true)
  | [], [], _ => by simp [kidsB]
  | [], _ :: _, _ => by simp [kidsB]
  | c :: w, [], h => by
    simp [plainB] at h
    simp [kidsB, h.1.1]
  | c :: w, t :: l, h => by
    have hw : plainB w = true := by
      simp only [plainB, List.all_cons, Bool.and_eq_true] at h ⊢
      exact h.2
    simp [plainB] at h
    have ih := kidsB_plain w l hw
    simp only [kidsB, h.1.1, h.1.2.1, h.1.2.2, if_false, Bool.and_eq_true, ih, List.length_cons]
    constructor
    · rintro ⟨h1, h2, h3⟩
      refine ⟨by omega, fun j q1 q2 => ?_⟩
      cases j with
      | zero => exact h1
      | succ j => exact h3 j (by simpa using q1) (by simpa using q2)
    · rintro ⟨h1, h2⟩
      exact ⟨h2 0 (by simp) (by simp), by omega, fun j q1 q2 => h2 (j + 1) (by simpa using q1) (by simpa using q2)⟩
end Go.Av
namespace Go.Av
abbrev Path := List Int
def down (p : Path) (i : Nat) : Path := p ++ [(i : Int)]
inductive Hs where
  | mk (label : Str) (ins : List Hs) (bl : Str) (site : Path) (br : Bool) (bins : List Hs)
def Hs.label : Hs → Str | .mk a _ _ _ _ _ => a
def Hs.ins : Hs → List Hs | .mk _ a _ _ _ _ => a
def Hs.bl : Hs → Str | .mk _ _ a _ _ _ => a
def Hs.site : Hs → Path | .mk _ _ _ a _ _ => a
def Hs.br : Hs → Bool | .mk _ _ _ _ a _ => a
def Hs.bins : Hs → List Hs | .mk _ _ _ _ _ a => a
structure Bd where
  label : Str
  site : Path
  br : Bool
  ins : List Hs
structure Lk where
  at' : Path
  space : Str
  name : Str
  site : Path
  rest : List Str
  deriving DecidableEq
structure Wk where
  L : List Lk
  X : List Lk
  E : Int
structure Stt where
  S : List Bd
  Out : List Hs
def findL {α : Type} (f : α → Bool) : List α → Option α
  | [] => none
  | x :: l => match findL f l with
    | some y => some y
    | none => if f x then some x else none
theorem findL_append {α : Type} (f : α → Bool) (b : List α) : ∀ a : List α, findL f (a ++ b) = match findL f b with | some y => some y | none => findL f a
  | [] => by simp only [List.nil_append]; cases findL f b <;> rfl
  | x :: a => by
    simp only [List.cons_append, findL, findL_append f b a]
    cases findL f b <;> simp
theorem findL_one {α : Type} (f : α → Bool) (x : α) : findL f [x] = if f x then some x else none := rfl
theorem findL_some {α : Type} {f : α → Bool} : ∀ {l : List α} {x : α}, findL f l = some x → x ∈ l ∧ f x = true
  | y :: l, x, h => by
    simp only [findL] at h
    cases hl : findL f l with
    | some z => rw [hl] at h; cases h; have := findL_some hl; exact ⟨.tail _ this.1, this.2⟩
    | none =>
      rw [hl] at h
      simp only at h
      split at h
      · cases h; exact ⟨.head _, by assumption⟩
      · cases h
theorem findL_none {α : Type} {f : α → Bool} : ∀ {l : List α}, findL f l = none ↔ ∀ x ∈ l, f x = false
  | [] => by simp [findL]
  | y :: l => by
    have ih := findL_none (f := f) (l := l)
    simp only [findL]
    cases hl : findL f l with
    | some z =>
      have := findL_some hl
      simp only [reduceCtorEq, false_iff]
      intro h
      have := h z (.tail _ this.1)
      simp_all
    | none =>
      rw [hl] at ih
      have ih := ih.1 rfl
      simp only [List.mem_cons, forall_eq_or_imp]
      cases hy : f y <;> simp [ih]
      exact ih
theorem findL_filter {α : Type} (f q : α → Bool) (h : ∀ x, f x = true → q x = true) : ∀ l : List α, findL f (l.filter q) = findL f l
  | [] => rfl
  | x :: l => by
    have ih := findL_filter f q h l
    by_cases hq : q x = true
    · rw [List.filter_cons_of_pos hq]; simp only [findL, ih]
    · rw [List.filter_cons_of_neg hq, ih]
      have : f x = false := by cases hx : f x with
        | false => rfl
        | true => exact absurd (h x hx) hq
      simp only [findL, this, Bool.false_eq_true, if_false]
      cases findL f l <;> rfl
def isH (x : Str) : Hs → Bool := fun h => h.label == x
def isBd (x : Str) : Bd → Bool := fun b => b.label == x
def put (l : List Hs) (k : Hs) : List Hs := l.filter (fun h => !(h.label == k.label)) ++ [k]
def giveH (p : Path) (h : Hs) : Hs := .mk h.label h.ins h.label p true h.ins
def putAll : List Hs → List Hs → Path → List Hs
  | l, [], _ => l
  | l, h :: k, p => putAll (put l (giveH p h)) k p
def bindB (s : List Bd) (x : Str) (p : Path) (ins : List Hs) : List Bd := s ++ [⟨x, p, false, ins⟩]
def bringB (s : List Bd) (ins : List Hs) (p : Path) : List Bd := s ++ ins.map fun h => ⟨h.label, p, true, h.ins⟩
def goIn (space : Str) : List Str → List Hs → Option (List Hs)
  | [], h => some h
  | x :: r, h => match findL (isH ((if r = [] then space else [109]) ++ 58 :: x)) h with
    | none => none
    | some k => goIn space r k.ins
def one (s : List Bd) (p : Path) (space long : Str) : Option (Lk × List Hs) :=
  match splitB long with
  | [] => none
  | x :: r => match findL (isBd ((if r = [] then space else [109]) ++ 58 :: x)) s with
    | none => none
    | some b => match goIn space r b.ins with
      | none => none
      | some h => some (⟨p, space, long, b.site, if b.br then x :: r else r⟩, h)
def refer (w : Wk) (s : List Bd) (p : Path) (space long : Str) : Wk × List Hs :=
  match one s p space long with
  | none => ({ w with E := 8 }, [])
  | some (k, h) => ({ w with L := w.L ++ [k] }, h)
def foldK {σ : Type} (f : Nat → Tr → σ → σ) : Nat → List Tr → σ → σ
  | _, [], x => x
  | i, t :: l, x => foldK f (i + 1) l (f i t x)
theorem foldK_drop {σ : Type} (f : Nat → Tr → σ → σ) {l : List Tr} {i : Nat} (h : i < l.length) (x : σ) : foldK f i (l.drop i) x = foldK f (i + 1) (l.drop (i + 1)) (f i l[i] x) := by
  rw [List.drop_eq_getElem_cons h]; rfl
theorem foldK_end {σ : Type} (f : Nat → Tr → σ → σ) {l : List Tr} {i : Nat} (h : l.length ≤ i) (x : σ) : foldK f i (l.drop i) x = x := by
  rw [List.drop_of_length_le h]; rfl
def Tr.kids : Tr → List Tr
  | .none => []
  | .node _ _ _ _ l => l
def Tr.mark : Tr → Str
  | .none => []
  | .node _ _ _ b _ => b
def Tr.kid (t : Tr) (i : Nat) : Tr := t.kids.getD i .none
def typW : Nat → List Bd → Tr → Path → Wk → Wk
  | 0, _, _, _, w => w
  | N + 1, s, t, p, w =>
    foldK (fun i k w => typW N (if t.kind = 7 ∨ t.kind = 62 ∨ t.kind = 72 then bindB s (116 :: 58 :: t.name) p [] else s) k (down p i) w) 0 t.kids
      (if t.kind = 4 then (refer w s p [116] t.name).1 else w)
def exprW : Nat → List Bd → Tr → Path → Wk → Wk
  | 0, _, _, _, w => w
  | N + 1, s, t, p, w =>
    foldK (fun i k w =>
      if (t.kind = 24 ∧ i = 0) ∨ (t.kind = 33 ∧ i = 1) then typW N s k (down p i) w
      else exprW N (if t.kind = 24 ∨ (t.kind = 29 ∧ i = 1) then bindB s (118 :: 58 :: t.name) p [] else if t.kind = 34 then bindB s (118 :: 58 :: t.mark) p [] else s) k (down p i) w) 0 t.kids
      (if t.kind = 23 then (refer w s p [118] t.name).1 else w)
def Stt.put (x : Stt) (lab : Str) (p : Path) (ins : List Hs) : Stt := ⟨bindB x.S lab p ins, Av.put x.Out (.mk lab ins lab p false ins)⟩
def putKids (p : Path) : List Tr → Stt → Stt
  | [], x => x
  | t :: l, x => putKids p l (x.put (118 :: 58 :: t.name) p [])
def dataW (N : Nat) (x : Stt) (t : Tr) (p : Path) (w : Wk) : Wk × Stt :=
  (typW N x.S t p w, putKids p t.kids (x.put (116 :: 58 :: t.name) p []))
mutual
def sigW : Nat → List Bd → Tr → Path → Wk → Wk × List Hs
  | 0, _, _, _, w => (w, [])
  | N + 1, s, t, p, w =>
    if t.kind = 51 then refer w s p [115] t.name
    else if t.kind = 52 then
      let r := sigW N s (t.kid 0) (down p 0) w
      (typW N s (t.kid 1) (down p 1) r.1, r.2)
    else
      let r := foldK (fun i k x => specW N x.2 k (down p i) x.1) 0 t.kids (w, ⟨s, []⟩)
      (r.1, r.2.Out)
def specW : Nat → Stt → Tr → Path → Wk → Wk × Stt
  | 0, x, _, _, w => (w, x)
  | N + 1, x, t, p, w =>
    if t.kind = 60 then (typW N x.S (t.kid 0) (down p 0) w, x.put (118 :: 58 :: t.name) p [])
    else if t.kind = 61 then (foldK (fun i k w => typW N x.S k (down p i) w) 0 t.kids w, x.put (116 :: 58 :: t.name) p [])
    else if t.kind = 62 then dataW (N + 1) x t p w
    else if t.kind = 63 then
      let r := sigW N x.S (t.kid 0) (down p 0) w
      (r.1, x.put (109 :: 58 :: t.name) p r.2)
    else if t.kind = 64 then
      let r := sigW N x.S (t.kid 0) (down p 0) w
      (r.1, ⟨bringB x.S r.2 p, putAll x.Out r.2 p⟩)
    else (w, x)
end
def linkOf (out : List Hs) (p : Path) (x : Str) : Lk :=
  match findL (isH x) out with
  | some h => ⟨p, x.take 1, x.drop 2, h.site, if h.br then [x.drop 2] else []⟩
  | none => ⟨[], [], [], [], []⟩
def endsL (out : List Hs) (p : Path) : List Lk := (sortS (out.map Hs.label)).map (linkOf out p)
mutual
def modW : Nat → List Bd → Tr → Path → Wk → Wk × List Hs
  | 0, _, _, _, w => (w, [])
  | N + 1, s, t, p, w =>
    if t.kind = 41 then refer w s p [109] t.name
    else if t.kind = 42 then
      let r := refer w s p [102] t.name
      ((modW N s (t.kid 0) (down p 0) r.1).1, r.2)
    else if t.kind = 43 then
      sigW N s (t.kid 1) (down p 1) (modW N s (t.kid 0) (down p 0) w).1
    else
      let r := foldK (fun i k x => declW N x.2 k (down p i) x.1) 0 t.kids (w, ⟨s, []⟩)
      ({ r.1 with X := r.1.X ++ endsL r.2.Out p }, r.2.Out)
def declW : Nat → Stt → Tr → Path → Wk → Wk × Stt
  | 0, x, _, _, w => (w, x)
  | N + 1, x, t, p, w =>
    if t.kind = 70 then
      (exprW N x.S (t.kid (t.kids.length - 1)) (down p (t.kids.length - 1)) (if t.kids.length = 2 then typW N x.S (t.kid 0) (down p 0) w else w), x.put (118 :: 58 :: t.name) p [])
    else if t.kind = 71 then (typW N x.S (t.kid 0) (down p 0) w, x.put (116 :: 58 :: t.name) p [])
    else if t.kind = 72 then dataW (N + 1) x t p w
    else if t.kind = 73 then
      let r := modW N x.S (t.kid 0) (down p 0) w
      (r.1, x.put (109 :: 58 :: t.name) p r.2)
    else if t.kind = 74 then
      let r := sigW N x.S (t.kid 0) (down p 0) w
      (r.1, ⟨bindB x.S (115 :: 58 :: t.name) p r.2, x.Out⟩)
    else if t.kind = 75 then
      let r := sigW N x.S (t.kid 0) (down p 0) w
      let q := modW N (bindB x.S (109 :: 58 :: t.mark) p r.2) (t.kid 1) (down p 1) r.1
      (q.1, ⟨bindB x.S (102 :: 58 :: t.name) p q.2, x.Out⟩)
    else
      let r := refer w x.S p [109] t.name
      (r.1, ⟨bringB x.S r.2 p, if t.kind = 77 then putAll x.Out r.2 p else x.Out⟩)
end
def seenH (b : Bd) : Hs := .mk b.label [] b.label b.site b.br b.ins
def seenL : List Bd → List Hs → List Hs
  | [], l => l
  | b :: s, l => seenL s (put l (seenH b))
def progW (N : Nat) (t : Tr) : Wk :=
  let r := foldK (fun i k x => declW N x.2 k (down [] i) x.1) 0 t.kids (⟨[], [], 0⟩, ⟨[], []⟩)
  { r.1 with X := r.1.X ++ endsL r.2.Out [] ++ endsL (seenL r.2.S []) [] }
def refK (k : Int) : Bool := k == 23 || k == 4 || k == 41 || k == 76 || k == 77 || k == 42 || k == 51
/- What a tree is, as far as the walk goes by it. -/
inductive TyW : Tr → Prop
  | mk {k n : Int} {a b : Str} {l : List Tr} (h4 : k = 4 → longB a = true) (ha : a.length ≤ 128) (hl : ∀ t ∈ l, TyW t) (hr : refK k = true → k = 4) : TyW (.node k n a b l)
inductive ExW : Tr → Prop
  | var {n : Int} {a b : Str} (h : longB a = true) : ExW (.node 23 n a b [])
  | lam {n : Int} {a b : Str} {t e : Tr} (ha : a.length ≤ 128) (h1 : TyW t) (h2 : ExW e) : ExW (.node 24 n a b [t, e])
  | bnd {n : Int} {a b : Str} {t e : Tr} (ha : a.length ≤ 128) (h1 : ExW t) (h2 : ExW e) : ExW (.node 29 n a b [t, e])
  | arm {n : Int} {a b : Str} {e : Tr} (hb : b.length ≤ 128) (h2 : ExW e) : ExW (.node 34 n a b [e])
  | fold {n : Int} {a b : Str} {e t : Tr} {l : List Tr} (h1 : ExW e) (h2 : TyW t) (h3 : ∀ x ∈ l, ExW x) : ExW (.node 33 n a b (e :: t :: l))
  | other {k n : Int} {a b : Str} {l : List Tr} (h1 : k ≠ 23) (h2 : k ≠ 24) (h3 : k ≠ 29) (h4 : k ≠ 33) (h5 : k ≠ 34) (hl : ∀ t ∈ l, ExW t) (hr : refK k = false) : ExW (.node k n a b l)
mutual
inductive SgW : Tr → Prop
  | name {n : Int} {a b : Str} (h : longB a = true) : SgW (.node 51 n a b [])
  | wh {n : Int} {a b : Str} {s t : Tr} (h1 : SgW s) (h2 : TyW t) : SgW (.node 52 n a b [s, t])
  | body {n : Int} {a b : Str} {l : List Tr} (hl : ∀ t ∈ l, SpW t) : SgW (.node 50 n a b l)
inductive SpW : Tr → Prop
  | val {n : Int} {a b : Str} {t : Tr} (ha : a.length ≤ 128) (h : TyW t) : SpW (.node 60 n a b [t])
  | typ0 {n : Int} {a b : Str} (ha : a.length ≤ 128) : SpW (.node 61 n a b [])
  | typ1 {n : Int} {a b : Str} {t : Tr} (ha : a.length ≤ 128) (h : TyW t) : SpW (.node 61 n a b [t])
  | data {n : Int} {a b : Str} {l : List Tr} (h8 : ∀ t ∈ l, t.kind = 8) (h : TyW (.node 62 n a b l)) : SpW (.node 62 n a b l)
  | str {n : Int} {a b : Str} {s : Tr} (ha : a.length ≤ 128) (h : SgW s) : SpW (.node 63 n a b [s])
  | inc {n : Int} {a b : Str} {s : Tr} (h : SgW s) : SpW (.node 64 n a b [s])
  | share {n : Int} {a b : Str} : SpW (.node 65 n a b [])
end
mutual
inductive MdW : Tr → Prop
  | path {n : Int} {a b : Str} (h : longB a = true) : MdW (.node 41 n a b [])
  | app {n : Int} {a b : Str} {m : Tr} (h : longB a = true) (h1 : MdW m) : MdW (.node 42 n a b [m])
  | sealM {n : Int} {a b : Str} {m s : Tr} (h1 : MdW m) (h2 : SgW s) : MdW (.node 43 n a b [m, s])
  | body {n : Int} {a b : Str} {l : List Tr} (hl : ∀ t ∈ l, DcW t) : MdW (.node 40 n a b l)
inductive DcW : Tr → Prop
  | val1 {n : Int} {a b : Str} {e : Tr} (ha : a.length ≤ 128) (h : ExW e) : DcW (.node 70 n a b [e])
  | val2 {n : Int} {a b : Str} {t e : Tr} (ha : a.length ≤ 128) (h1 : TyW t) (h : ExW e) : DcW (.node 70 n a b [t, e])
  | typ {n : Int} {a b : Str} {t : Tr} (ha : a.length ≤ 128) (h1 : TyW t) : DcW (.node 71 n a b [t])
  | data {n : Int} {a b : Str} {l : List Tr} (h8 : ∀ t ∈ l, t.kind = 8) (h : TyW (.node 72 n a b l)) : DcW (.node 72 n a b l)
  | str {n : Int} {a b : Str} {m : Tr} (ha : a.length ≤ 128) (h : MdW m) : DcW (.node 73 n a b [m])
  | sg {n : Int} {a b : Str} {s : Tr} (ha : a.length ≤ 128) (h : SgW s) : DcW (.node 74 n a b [s])
  | ftor {n : Int} {a b : Str} {s m : Tr} (ha : a.length ≤ 128) (hb : b.length ≤ 128) (h1 : SgW s) (h2 : MdW m) : DcW (.node 75 n a b [s, m])
  | opn {n : Int} {a b : Str} (h : longB a = true) : DcW (.node 76 n a b [])
  | inc {n : Int} {a b : Str} (h : longB a = true) : DcW (.node 77 n a b [])
end
/- How the walk's lists lie in values. -/
mutual
def Hs.av : Hs → List AV
  | .mk a i b s r j => [.str a, .sl 6 (Hs.avs i) .shut, .str b, .sl 1 (ints s) .shut, .bool r, .sl 6 (Hs.avs j) .shut]
def Hs.avs : List Hs → List (List AV)
  | [] => []
  | h :: l => h.av :: Hs.avs l
end
theorem Hs.avs_map : ∀ l : List Hs, Hs.avs l = l.map Hs.av
  | [] => rfl
  | h :: l => by simp [Hs.avs, Hs.avs_map l]
@[simp] theorem hss_len (l : List Hs) : (Hs.avs l).length = l.length := by simp [Hs.avs_map]
@[simp] theorem hss_eq_nil (l : List Hs) : Hs.avs l = [] ↔ l = [] := by simp [Hs.avs_map]
theorem Hs.av_eq (h : Hs) : h.av = [.str h.label, .sl 6 (Hs.avs h.ins) .shut, .str h.bl, .sl 1 (ints h.site) .shut, .bool h.br, .sl 6 (Hs.avs h.bins) .shut] := by cases h; simp only [Hs.av]; rfl
@[simp] theorem hss_get (l : List Hs) (i : Nat) : (Hs.avs l)[i]? = (l[i]?).map fun h => [.str h.label, .sl 6 (Hs.avs h.ins) .shut, .str h.bl, .sl 1 (ints h.site) .shut, .bool h.br, .sl 6 (Hs.avs h.bins) .shut] := by
  rw [Hs.avs_map, List.getElem?_map]; cases l[i]? <;> simp [Hs.av_eq]
@[simp] theorem hss_getE (l : List Hs) (i : Nat) (h : i < (Hs.avs l).length) : (Hs.avs l)[i] = [.str (l[i]'(by simpa using h)).label, .sl 6 (Hs.avs (l[i]'(by simpa using h)).ins) .shut, .str (l[i]'(by simpa using h)).bl, .sl 1 (ints (l[i]'(by simpa using h)).site) .shut, .bool (l[i]'(by simpa using h)).br, .sl 6 (Hs.avs (l[i]'(by simpa using h)).bins) .shut] := by
  simp [Hs.avs_map, Hs.av_eq]
@[simp] theorem hss_ok (l : List Hs) : (Hs.avs l).all (fun x => x.all okCell) = true := by simp [Hs.avs_map, Hs.av_eq]
mutual
theorem Hs.data : ∀ (h : Hs) (n m : Nat), clnL n m h.av = h.av
  | .mk a i b s r j, n, m => by simp [Hs.av, Hs.datas i n m, Hs.datas j n m]
theorem Hs.datas : ∀ (l : List Hs) (n m : Nat), clnLL n m (Hs.avs l) = Hs.avs l
  | [], _, _ => rfl
  | h :: l, n, m => by simp only [Hs.avs, clnLL, Hs.data h n m, Hs.datas l n m]
end
@[simp] theorem hss_cln (n m : Nat) (l : List Hs) : clnLL n m (Hs.avs l) = Hs.avs l := Hs.datas l n m
def Bd.av (b : Bd) : List AV := [.str b.label, .sl 1 (ints b.site) .shut, .bool b.br, .sl 6 (Hs.avs b.ins) .shut]
def bds (l : List Bd) : List (List AV) := l.map Bd.av
@[simp] theorem bds_len (l : List Bd) : (bds l).length = l.length := by simp [bds]
@[simp] theorem bds_eq_nil (l : List Bd) : bds l = [] ↔ l = [] := by simp [bds]
@[simp] theorem bds_ok (l : List Bd) : (bds l).all (fun x => x.all okCell) = true := by simp [bds, Bd.av]
@[simp] theorem bds_get (l : List Bd) (i : Nat) : (bds l)[i]? = (l[i]?).map fun b => [.str b.label, .sl 1 (ints b.site) .shut, .bool b.br, .sl 6 (Hs.avs b.ins) .shut] := by simp [bds]; rfl
@[simp] theorem bds_getE (l : List Bd) (i : Nat) (h : i < (bds l).length) : (bds l)[i] = [.str (l[i]'(by simpa using h)).label, .sl 1 (ints (l[i]'(by simpa using h)).site) .shut, .bool (l[i]'(by simpa using h)).br, .sl 6 (Hs.avs (l[i]'(by simpa using h)).ins) .shut] := by simp [bds, Bd.av]
@[simp] theorem bds_cln (n m : Nat) (l : List Bd) : clnLL n m (bds l) = bds l := clnLL_map (fun _ _ _ => by simp [Bd.av]) n m l
def Lk.av (k : Lk) : List AV := [.sl 1 (ints k.at') .shut, .str k.space, .str k.name, .sl 1 (ints k.site) .shut, .sl 1 (strs k.rest) .shut]
def lks (l : List Lk) : List (List AV) := l.map Lk.av
@[simp] theorem lks_len (l : List Lk) : (lks l).length = l.length := by simp [lks]
@[simp] theorem lks_eq_nil (l : List Lk) : lks l = [] ↔ l = [] := by simp [lks]
@[simp] theorem lks_ok (l : List Lk) : (lks l).all (fun x => x.all okCell) = true := by simp [lks, Lk.av]
@[simp] theorem lks_get (l : List Lk) (i : Nat) : (lks l)[i]? = (l[i]?).map fun k => [.sl 1 (ints k.at') .shut, .str k.space, .str k.name, .sl 1 (ints k.site) .shut, .sl 1 (strs k.rest) .shut] := by simp [lks]; rfl
@[simp] theorem lks_getE (l : List Lk) (i : Nat) (h : i < (lks l).length) : (lks l)[i] = [.sl 1 (ints (l[i]'(by simpa using h)).at') .shut, .str (l[i]'(by simpa using h)).space, .str (l[i]'(by simpa using h)).name, .sl 1 (ints (l[i]'(by simpa using h)).site) .shut, .sl 1 (strs (l[i]'(by simpa using h)).rest) .shut] := by simp [lks, Lk.av]
@[simp] theorem lks_cln (n m : Nat) (l : List Lk) : clnLL n m (lks l) = lks l := clnLL_map (fun _ _ _ => by simp [Lk.av]) n m l
theorem lks_append (a b : List Lk) : lks (a ++ b) = lks a ++ lks b := by simp [lks]
end Go.Av
