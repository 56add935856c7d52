/- Plain: steps as lines. No program is named here, and nothing is assumed. -/
import Derived.Test.YtimmfcbpdnlfjaaDoorQuoP
import Derived.Test.YtimmfcbpdnlfjaaDoorNumsE
namespace Go.Proofs.YtimmfcbpdnlfjaaDoor
open Go.RowKit Go.Lib

/-- The parts that a step may have. -/
inductive Pt where
  | n | t | c | a | l | k | e | v
  deriving DecidableEq
structure Stp where
  kind : Int
  n : Int
  ticks : Int
  tab : Int
  lev : Int
  key : ByteArray
  en : ByteArray
  val : ByteArray
  ctx : Int
def forms : List (List UInt8 × List Pt) :=
  [([112, 117, 116], [.n, .a, .l, .k, .v, .c]), ([116, 116, 108], [.n, .a, .l, .k, .v, .t]), ([100, 101, 108], [.n, .a, .l, .k, .c]), ([119, 105, 112, 101], [.n, .a, .l, .k, .e]),
   ([103, 101, 116], [.n, .a, .l, .k]), ([115, 99, 97, 110], [.n, .a, .l, .k, .e]), ([100, 101, 108, 105, 118, 101, 114], [.n]), ([108, 111, 115, 101], [.n]), ([100, 111, 117, 98, 108, 101], [.n]),
   ([116, 105, 99, 107], [.n, .t]), ([97, 114, 109], [.n, .t]), ([99, 114, 97, 115, 104], [.n]), ([98, 111, 111, 116], [.n, .t]), ([114, 111, 111, 109], [.n, .t]), ([101, 120, 99, 108, 117, 100, 101], [.n]), ([105, 110, 99, 108, 117, 100, 101], [.n]), ([116, 101, 108, 108], [.n])]
/-- A kind's word and its parts. -/
def formP (k : Int) : List UInt8 × List Pt := if 1 ≤ k ∧ k ≤ 17 then forms.getD (k - 1).toNat ([], []) else ([], [])
def codeP : Pt → UInt8
  | .n => 110 | .t => 116 | .c => 99 | .a => 97 | .l => 108 | .k => 107 | .e => 101 | .v => 118
def codeR : Pt → UInt8
  | .n => 78 | .t => 83 | .c => 67 | .a => 84 | .l => 76 | .k => 75 | .e => 69 | .v => 86
theorem kind_cases (k : Int) : (1 ≤ k ∧ k ≤ 17) ∨ (formP k = ([], []) ∧ ¬ (1 ≤ k ∧ k ≤ 17)) := by
  by_cases h : 1 ≤ k ∧ k ≤ 17
  · exact .inl h
  · exact .inr ⟨by unfold formP; rw [if_neg h], h⟩
/-- A number as a word; empty: it is none of those that may be. -/
def numW (x : Int) : List UInt8 := if 0 ≤ x ∧ x ≤ 1125899906842624 then dec x.toNat else []
def tabN : List (List UInt8) := [[108, 97, 115, 116], [99, 97, 117, 115, 97, 108]]
def levN : List (List UInt8) := [[111, 110, 101], [113, 117, 111, 114, 117, 109], [97, 108, 108]]
def wordW (l : List (List UInt8)) (x : Int) : List UInt8 := if 1 ≤ x ∧ x ≤ l.length then l.getD (x - 1).toNat [] else []
def textW (s : ByteArray) : List UInt8 := if 64 < s.size then [] else quoteP s
/-- A part of a step as a word; empty: it can't be told. -/
def tellP (s : Stp) : Pt → List UInt8
  | .n => numW s.n
  | .t => numW s.ticks
  | .c => if s.ctx < -1 ∨ 1125899906842624 ≤ s.ctx then [] else numW (s.ctx + 1)
  | .a => wordW tabN s.tab
  | .l => wordW levN s.lev
  | .k => textW s.key
  | .e => textW s.en
  | .v => textW s.val
/-- A step with just these parts. -/
def bareS (s : Stp) (ps : List Pt) : Stp where
  kind := s.kind
  n := if ps.contains .n then s.n else 0
  ticks := if ps.contains .t then s.ticks else 0
  tab := if ps.contains .a then s.tab else 0
  lev := if ps.contains .l then s.lev else 0
  key := if ps.contains .k then s.key else ⟨#[]⟩
  en := if ps.contains .e then s.en else ⟨#[]⟩
  val := if ps.contains .v then s.val else ⟨#[]⟩
  ctx := if ps.contains .c then s.ctx else -1
/-- Is what is no part nothing? -/
def bareB (s : Stp) (ps : List Pt) : Bool :=
  (ps.contains .n || s.n == 0) && ((ps.contains .t || s.ticks == 0) && ((ps.contains .c || s.ctx == -1) && ((ps.contains .a || s.tab == 0) && ((ps.contains .l || s.lev == 0) && ((ps.contains .k || s.key.toList == []) && ((ps.contains .e || s.en.toList == []) && (ps.contains .v || s.val.toList == [])))))))
def stpEq (a b : Stp) : Bool :=
  a.kind == b.kind && (a.n == b.n && (a.ticks == b.ticks && (a.tab == b.tab && (a.lev == b.lev && (a.key.toList == b.key.toList && (a.en.toList == b.en.toList && (a.val.toList == b.val.toList && a.ctx == b.ctx)))))))
theorem toList_nil : (⟨#[]⟩ : ByteArray).toList = [] := by rw [Go.ByteArray.toList_eq]
theorem stpEq_bare (s : Stp) (ps : List Pt) : stpEq s (bareS s ps) = bareB s ps := by
  unfold stpEq bareS bareB
  dsimp only
  have e1 : ∀ (b : Bool) (x d : Int), (x == if b = true then x else d) = (b || x == d) := fun b x d => by cases b <;> simp
  have e2 : ∀ (b : Bool) (x : ByteArray), (x.toList == (if b = true then x else ⟨#[]⟩ : ByteArray).toList) = (b || x.toList == []) := fun b x => by
    cases b
    · rw [if_neg (by decide), toList_nil, Bool.false_or]
    · rw [if_pos rfl]; simp
  rw [e1, e1, e1, e1, e1, e2, e2, e2, beq_self_eq_true, Bool.true_and]
  generalize (ps.contains .n || s.n == 0) = b1
  generalize (ps.contains .t || s.ticks == 0) = b2
  generalize (ps.contains .c || s.ctx == -1) = b3
  generalize (ps.contains .a || s.tab == 0) = b4
  generalize (ps.contains .l || s.lev == 0) = b5
  generalize (ps.contains .k || s.key.toList == []) = b6
  generalize (ps.contains .e || s.en.toList == []) = b7
  generalize (ps.contains .v || s.val.toList == []) = b8
  cases b1 <;> cases b2 <;> cases b3 <;> cases b4 <;> cases b5 <;> cases b6 <;> cases b7 <;> cases b8 <;> rfl
/-- The words behind the first one; none: one can't be told. -/
def tellsP (s : Stp) (ps : List Pt) : Option (List UInt8) := if ps.any (fun p => (tellP s p).isEmpty) then none else some (ps.flatMap fun p => 32 :: tellP s p)
/-- A step as a line; empty: it has none. -/
def lineP (s : Stp) : List UInt8 :=
  if (formP s.kind).1 = [] ∨ bareB s (formP s.kind).2 = false then [] else
  match tellsP s (formP s.kind).2 with
  | none => []
  | some r => (formP s.kind).1 ++ r
theorem numW_len (x : Int) : (numW x).length ≤ 16 := by
  unfold numW
  split
  · rename_i h
    exact dec_length _ (by omega)
  · simp
theorem textW_len (s : ByteArray) : (textW s).length ≤ 258 := by
  unfold textW
  split
  · simp
  · have := quoteP_len_le s
    omega
theorem wordW_len (x : Int) : (wordW tabN x).length ≤ 6 ∧ (wordW levN x).length ≤ 6 := by
  constructor
  · unfold wordW
    split
    · rename_i h
      have h1 : x = 1 ∨ x = 2 := by have : (tabN.length : Int) = 2 := rfl; omega
      rcases h1 with rfl | rfl <;> decide
    · simp
  · unfold wordW
    split
    · rename_i h
      have h1 : x = 1 ∨ x = 2 ∨ x = 3 := by have : (levN.length : Int) = 3 := rfl; omega
      rcases h1 with rfl | rfl | rfl <;> decide
    · simp
theorem tellP_len (s : Stp) (p : Pt) : (tellP s p).length ≤ 258 := by
  cases p
  · exact Nat.le_trans (numW_len _) (by decide)
  · exact Nat.le_trans (numW_len _) (by decide)
  · show (if s.ctx < -1 ∨ 1125899906842624 ≤ s.ctx then [] else numW (s.ctx + 1)).length ≤ 258
    split
    · simp
    · exact Nat.le_trans (numW_len _) (by decide)
  · exact Nat.le_trans (wordW_len _).1 (by decide)
  · exact Nat.le_trans (wordW_len _).2 (by decide)
  · exact textW_len _
  · exact textW_len _
  · exact textW_len _
end Go.Proofs.YtimmfcbpdnlfjaaDoor
