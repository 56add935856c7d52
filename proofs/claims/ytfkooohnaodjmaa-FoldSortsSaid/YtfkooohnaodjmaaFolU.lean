/- The law's great; walks of FoldTexts and FoldOrder. -/
import Derived.Test.YtfkooohnaodjmaaFolT
import Derived.Test.YtfkooohnaodjmaaFolF
namespace Go.Proofs.Ytfkooohnaodjmaa
open Go.RowKit Go.Sort

def Tri (z : Int) : Prop := -1 ≤ z ∧ z ≤ 1
theorem tri_I (a b : Int) : Tri (cmpI a b) := by
  unfold cmpI Tri
  split
  · omega
  · split <;> omega
theorem tri_T (a b : ByteArray) : Tri (cmpT a b) := by
  unfold Tri
  rcases cmpT_cases a b with ⟨_, e⟩ | ⟨_, _, e⟩ | ⟨_, _, e⟩ <;> rw [e] <;> omega
theorem tri_or : ∀ l : List Int, (∀ z ∈ l, Tri z) → Tri (orL l)
  | [], _ => by unfold orL Tri; omega
  | z :: l, h => by
    unfold orL
    split
    · exact tri_or l fun y hy => h y (List.mem_cons_of_mem _ hy)
    · exact h z (List.mem_cons_self ..)
theorem tri_L {α : Type} (f : α → α → Int) (hf : ∀ a b, Tri (f a b)) : ∀ l1 l2 : List α, Tri (cmpL f l1 l2)
  | [], [] => by unfold cmpL Tri; omega
  | [], _ :: _ => by unfold cmpL Tri; omega
  | _ :: _, [] => by unfold cmpL Tri; omega
  | a :: l1, b :: l2 => by
    unfold cmpL
    split
    · exact tri_L f hf l1 l2
    · exact hf a b
theorem tri_C (p q : Ch) : Tri (cmpC p q) := by
  unfold cmpC
  split
  · exact tri_or _ fun z hz => by
      simp only [List.mem_cons, List.mem_nil_iff, or_false] at hz
      rcases hz with rfl | rfl
      · exact tri_I _ _
      · exact tri_T _ _
  · split
    · exact tri_T _ _
    · unfold Tri
      split <;> omega
theorem tri_nat (a b : ByteArray) : Tri (natC a b) := tri_or _ fun z hz => by
  simp only [List.mem_cons, List.mem_nil_iff, or_false] at hz
  rcases hz with rfl | rfl
  · exact tri_L _ tri_C _ _
  · exact tri_T _ _
def GreatE (n : Nat) (K : List ByteArray) (w : World) (e : Ending) (w' : World) : Prop := ∃ q : Bool, e = .returned (.bool q) ∧ (q = false → n ≤ 30 ∧ ∀ s ∈ K, s.size ≤ 200) ∧ w = w'

set_option maxRecDepth 100000 in
set_option maxHeartbeats 1000000 in
theorem law39_great (A : Option Addr) (n c : Nat) (K : List ByteArray) (w : World) (hr : Reads w w.heap.size 1 A n (K.map Value.string)) (hn : n ≤ 9223372036854775807) (hz : ∀ s ∈ K, s.size ≤ maxLen) :
    Calls Try.prog 13 #[.slice A n c] w (GreatE n K w) := by
  have hN : K.length = n := by have := hr.1; simpa using this
  have HR := Lib.hid hr
  have HN := Lib.hid hN
  have HZ := Lib.hid hz
  clear hr hN hz
  by_cases hn30 : n ≤ 30
  · go_enter Try.func13, Try.ntmps13
    go_wp2_with fail
    go_loop [3] (fun v3 => ∃ i : Nat, v3 = .int .i64 i ∧ i ≤ n ∧ ∀ s ∈ K.take i, s.size ≤ 200) (fun v3 => n - (intOf v3).toNat)
    case atStart => exact ⟨0, rfl, Nat.zero_le _, by simp⟩
    case round =>
      obtain ⟨i, rfl, hi, hs⟩ := hrel
      have HS := Lib.hid hs
      clear hs
      by_cases hin : i < n
      · have hil : i < K.length := by have := HN.out; omega
        obtain ⟨b, off, rfl, hb, hc1⟩ := Reads.form HR.out (by omega)
        obtain ⟨x, hx⟩ : ∃ x, K[i]'hil = x := ⟨_, rfl⟩
        have q0 := hc1 i (.string x) (by rw [List.getElem?_map, List.getElem?_eq_getElem hil, hx]; rfl)
        have hxz : x.size ≤ maxLen := HZ.out x (by rw [← hx]; exact List.getElem_mem hil)
        have hxm : x.size ≤ 9223372036854775807 := by unfold maxLen at hxz; omega
        have HX := Lib.hid hx
        clear hc1 hx hxz
        by_cases hx2 : x.size ≤ 200
        · go_wp2_with fail
          go_round
          case rel => exact ⟨i + 1, by go_num, hin, fun s hs => by
            rw [List.take_succ_eq_append_getElem hil, HX.out] at hs
            rcases List.mem_append.1 hs with hs | hs
            · exact HS.out s hs
            · rw [List.mem_singleton.1 hs]; exact hx2⟩
          case measure => simp [intOf]; omega
        · have hx3 : x.size > 200 := by omega
          go_wp2_with fail
          go_ret
          exact ⟨true, rfl, (fun h => by cases h), rfl⟩
      · have hF : ∀ s ∈ K, s.size ≤ 200 := by
          have h := HS.out
          rwa [List.take_of_length_le (by have := HN.out; omega)] at h
        have HF := Lib.hid hF
        clear hF
        go_wp2_with fail
        go_ret
        exact ⟨false, rfl, fun _ => ⟨hn30, HF.out⟩, rfl⟩
  · have hn2 : n > 30 := by omega
    go_enter Try.func13, Try.ntmps13
    go_wp2_with fail
    go_ret
    exact ⟨true, rfl, (fun h => by cases h), rfl⟩

end Go.Proofs.Ytfkooohnaodjmaa
