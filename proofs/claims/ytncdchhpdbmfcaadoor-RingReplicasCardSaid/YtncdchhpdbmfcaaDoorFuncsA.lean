/- Contracts of slices.Index, Contains, IndexFunc, ContainsFunc over numbers. A predicate may lay blocks of its own, and turns nothing that was there. -/
import Derived.Test.YtncdchhpdbmfcaaDoorInts
import Derived.Test.YtncdchhpdbmfcaaDoorIntsEq
namespace Go.Proofs.YtncdchhpdbmfcaaDoor
open Go.RowKit Go.Sort

/-- What is asked of a predicate: at every number, in every world in which all below B lies as it did. -/
def PredB (g : Nat) (pre lb : Array Value) (p : Int → Bool) (B : Nat) (w : World) : Prop :=
  ∀ (W : World) (x : Int), Below B w W → Calls Tryd.prog g (pre ++ #[.int .i64 x] ++ lb) W fun e w' => e = .returned (.bool (p x)) ∧ Below W.heap.size W w'
/-- The place of the first one that meets p; -1: there is none. -/
def IdxR (p : Int → Bool) (l : List Int) (r : Int) : Prop := (r = -1 ∧ ∀ x ∈ l, p x = false) ∨ ∃ k : Nat, r = k ∧ k < l.length ∧ (∃ x, l[k]? = some x ∧ p x = true) ∧ ∀ x ∈ l.take k, p x = false
def IdxE (p : Int → Bool) (l : List Int) (B : Nat) (w : World) (e : Ending) (w' : World) : Prop := ∃ r, e = .returned (.int .i64 r) ∧ IdxR p l r ∧ Below B w w'
theorem IdxR.any {p : Int → Bool} {l : List Int} {r : Int} (h : IdxR p l r) : decide (0 ≤ r) = l.any p := by
  rcases h with ⟨rfl, h⟩ | ⟨k, rfl, _, ⟨x, hx, hp⟩, _⟩
  · have : l.any p = false := by
      rw [List.any_eq_false]
      intro x hx
      rw [h x hx]
      decide
    rw [this]
    decide
  · have : l.any p = true := List.any_eq_true.2 ⟨x, List.mem_of_getElem? hx, hp⟩
    rw [this]
    simp
theorem take_noneI {p : Int → Bool} {l : List Int} {k : Nat} {x : Int} (h : ∀ y ∈ l.take k, p y = false) (hk : k < l.length) (hx : l[k] = x) (hp : p x = false) : ∀ y ∈ l.take (k + 1), p y = false := by
  intro y hy
  rw [List.take_succ_eq_append_getElem hk] at hy
  rcases List.mem_append.1 hy with hy | hy
  · exact h y hy
  · rw [List.mem_singleton] at hy
    rw [hy, hx]
    exact hp

set_option maxRecDepth 100000 in
set_option maxHeartbeats 1000000 in
theorem ints_Index (A : Option Addr) (n c : Nat) (l : List Int) (w : World) (x : Int) (hr : Reads w w.heap.size 1 A n (l.map vi)) (hn : n ≤ 9223372036854775807) :
    Calls Tryd.prog 36 #[.slice A n c, .int .i64 x] w (IdxE (fun y => x == y) l w.heap.size w) := by
  have hl := hr.leni
  have HR := Lib.hid hr
  have HL := Lib.hid hl
  clear hr hl
  go_enter Tryd.func36, Tryd.ntmps36
  go_wp2
  go_loop [5, 8] (fun _ v8 => ∃ k : Nat, v8 = .int .i64 k ∧ k ≤ n ∧ (∀ y ∈ l.take k, (x == y) = false)) (fun _ v8 => n - (intOf v8).toNat)
  case atStart => exact ⟨0, rfl, Nat.zero_le _, by simp⟩
  case round =>
    obtain ⟨k, rfl, hk, hx⟩ := hrel
    have HX := Lib.hid hx
    clear hx
    by_cases hlt : k < n
    · obtain ⟨b, off, rfl, _, hc⟩ := Reads.form HR.out (by omega)
      have hkl : k < l.length := by have := HL.out; omega
      have q0 := hc k (vi l[k]) (by simp [hkl])
      unfold vi at q0
      have hget : l[k]? = some l[k] := List.getElem?_eq_getElem hkl
      obtain ⟨y, hyy⟩ : ∃ y, l[k] = y := ⟨_, rfl⟩
      rw [hyy] at q0 hget
      have HXX := Lib.hid hyy
      have HG := Lib.hid hget
      clear hc hyy hget
      by_cases hq : x = y
      · have hqb : (x == y) = true := by simpa using hq
        have HQ := Lib.hid hqb
        clear hq
        go_wp2
        go_ret
        exact ⟨k, rfl, .inr ⟨k, rfl, hkl, ⟨y, HG.out, HQ.out⟩, HX.out⟩, Below.refl _ _⟩
      · have hqb : (x == y) = false := by simpa using hq
        have HQ := Lib.hid hqb
        clear hq
        go_wp2
        go_round
        case rel => exact ⟨k + 1, by go_num, by omega, take_noneI (p := fun y => x == y) HX.out hkl HXX.out HQ.out⟩
        case measure => simp [intOf]; omega
    · go_wp2
      go_ret
      exact ⟨-1, rfl, .inl ⟨rfl, by have := HX.out; rwa [List.take_of_length_le (by have := HL.out; omega)] at this⟩, Below.refl _ _⟩
set_option maxRecDepth 100000 in
theorem ints_Contains (A : Option Addr) (n c : Nat) (l : List Int) (w : World) (x : Int) (hr : Reads w w.heap.size 1 A n (l.map vi)) (hn : n ≤ 9223372036854775807) :
    Calls Tryd.prog 10 #[.slice A n c, .int .i64 x] w fun e w' => e = .returned (.bool (l.any fun y => x == y)) ∧ Below w.heap.size w w' := by
  have HC := Lib.hid (ints_Index A n c l w x hr hn)
  clear hr
  go_enter Tryd.func10, Tryd.ntmps10
  go_wp2_with fail
  refine HC.out.mono ?_
  rintro e w' ⟨r, rfl, hr, hb⟩
  have HR := Lib.hid hr.any
  clear hr
  go_wp2_with fail
  go_ret
  exact ⟨ret_bool' HR.out, hb⟩
end Go.Proofs.YtncdchhpdbmfcaaDoor
