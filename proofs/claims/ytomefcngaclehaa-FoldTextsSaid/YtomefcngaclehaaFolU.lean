/- The law's great; walks of FoldTexts and FoldOrder. -/
import Derived.Test.YtomefcngaclehaaFolT
import Derived.Test.YtomefcngaclehaaFolF
namespace Go.Proofs.Ytomefcngaclehaa
open Go.RowKit Go.Sort

def Tri (z : Int) : Prop := -1 ≤ z ∧ z ≤ 1
theorem tri_I (a b : Int) : Tri (cmpI a b) := by
  unfold cmpI Tri
  split
  · omega
  · split <;> omega
theorem tri_T (a b : ByteArray) : Tri (cmpT a b) := by
  unfold Tri
  rcases cmpT_cases a b with ⟨_, e⟩ | ⟨_, _, e⟩ | ⟨_, _, e⟩ <;> rw [e] <;> omega
theorem tri_or : ∀ l : List Int, (∀ z ∈ l, Tri z) → Tri (orL l)
  | [], _ => by unfold orL Tri; omega
  | z :: l, h => by
    unfold orL
    split
    · exact tri_or l fun y hy => h y (List.mem_cons_of_mem _ hy)
    · exact h z (List.mem_cons_self ..)
theorem tri_L {α : Type} (f : α → α → Int) (hf : ∀ a b, Tri (f a b)) : ∀ l1 l2 : List α, Tri (cmpL f l1 l2)
  | [], [] => by unfold cmpL Tri; omega
  | [], _ :: _ => by unfold cmpL Tri; omega
  | _ :: _, [] => by unfold cmpL Tri; omega
  | a :: l1, b :: l2 => by
    unfold cmpL
    split
    · exact tri_L f hf l1 l2
    · exact hf a b
theorem tri_C (p q : Ch) : Tri (cmpC p q) := by
  unfold cmpC
  split
  · exact tri_or _ fun z hz => by
      simp only [List.mem_cons, List.mem_nil_iff, or_false] at hz
      rcases hz with rfl | rfl
      · exact tri_I _ _
      · exact tri_T _ _
  · split
    · exact tri_T _ _
    · unfold Tri
      split <;> omega
theorem tri_nat (a b : ByteArray) : Tri (natC a b) := tri_or _ fun z hz => by
  simp only [List.mem_cons, List.mem_nil_iff, or_false] at hz
  rcases hz with rfl | rfl
  · exact tri_L _ tri_C _ _
  · exact tri_T _ _
def GreatE (n : Nat) (K : List ByteArray) (w : World) (e : Ending) (w' : World) : Prop := ∃ q : Bool, e = .returned (.bool q) ∧ (q = false → n ≤ 30 ∧ ∀ s ∈ K, s.size ≤ 200) ∧ w = w'

set_option maxRecDepth 100000 in
set_option maxHeartbeats 1000000 in
theorem law39_great (A : Option Addr) (n c : Nat) (K : List ByteArray) (w : World) (hr : Reads w w.heap.size 1 A n (K.map Value.string)) (hn : n ≤ 9223372036854775807) (hz : ∀ s ∈ K, s.size ≤ maxLen) :
    Calls Try.prog 15 #[.slice A n c] w (GreatE n K w) := by
  have hN : K.length = n := by have := hr.1; simpa using this
  have HR := Lib.hid hr
  have HN := Lib.hid hN
  have HZ := Lib.hid hz
  clear hr hN hz
  by_cases hn30 : n ≤ 30
  · go_enter Try.func15, Try.ntmps15
    go_wp2_with fail
    go_loop [3] (fun v3 => ∃ i : Nat, v3 = .int .i64 i ∧ i ≤ n ∧ ∀ s ∈ K.take i, s.size ≤ 200) (fun v3 => n - (intOf v3).toNat)
    case atStart => exact ⟨0, rfl, Nat.zero_le _, by simp⟩
    case round =>
      obtain ⟨i, rfl, hi, hs⟩ := hrel
      have HS := Lib.hid hs
      clear hs
      by_cases hin : i < n
      · have hil : i < K.length := by have := HN.out; omega
        obtain ⟨b, off, rfl, hb, hc1⟩ := Reads.form HR.out (by omega)
        obtain ⟨x, hx⟩ : ∃ x, K[i]'hil = x := ⟨_, rfl⟩
        have q0 := hc1 i (.string x) (by rw [List.getElem?_map, List.getElem?_eq_getElem hil, hx]; rfl)
        have hxz : x.size ≤ maxLen := HZ.out x (by rw [← hx]; exact List.getElem_mem hil)
        have hxm : x.size ≤ 9223372036854775807 := by unfold maxLen at hxz; omega
        have HX := Lib.hid hx
        clear hc1 hx hxz
        by_cases hx2 : x.size ≤ 200
        · go_wp2_with fail
          go_round
          case rel => exact ⟨i + 1, by go_num, hin, fun s hs => by
            rw [List.take_succ_eq_append_getElem hil, HX.out] at hs
            rcases List.mem_append.1 hs with hs | hs
            · exact HS.out s hs
            · rw [List.mem_singleton.1 hs]; exact hx2⟩
          case measure => simp [intOf]; omega
        · have hx3 : x.size > 200 := by omega
          go_wp2_with fail
          go_ret
          exact ⟨true, rfl, (fun h => by cases h), rfl⟩
      · have hF : ∀ s ∈ K, s.size ≤ 200 := by
          have h := HS.out
          rwa [List.take_of_length_le (by have := HN.out; omega)] at h
        have HF := Lib.hid hF
        clear hF
        go_wp2_with fail
        go_ret
        exact ⟨false, rfl, fun _ => ⟨hn30, HF.out⟩, rfl⟩
  · have hn2 : n > 30 := by omega
    go_enter Try.func15, Try.ntmps15
    go_wp2_with fail
    go_ret
    exact ⟨true, rfl, (fun h => by cases h), rfl⟩

set_option maxRecDepth 100000 in
set_option maxHeartbeats 4000000 in
theorem fold_order_walk (w : World) (a : ByteArray) (wa : a.size ≤ maxLen) (b : ByteArray) (wb : b.size ≤ maxLen) (c : ByteArray) (wc : c.size ≤ maxLen) :
    Calls Try.prog 5 #[.string a, .string b, .string c] w fun e w' => e = .returned (.bool true) ∧ Below w.heap.size w w' := by
  have bA := (Below.refl w.heap.size w).alloc (Nat.le_refl _) (.cells #[.string a, .string b, .string c] 9)
  have HG := Lib.hid (law39_great (some ⟨w.heap.size, 0, none⟩) 3 3 [a, b, c] _ (reads_blk3 (Blk.new w 9 #[.string a, .string b, .string c])) (by omega) (fun s hs => by simp only [List.mem_cons, List.mem_nil_iff, or_false] at hs; rcases hs with rfl | rfl | rfl <;> assumption))
  obtain ⟨x, hx⟩ : ∃ x, natC a b = x := ⟨_, rfl⟩
  obtain ⟨y, hy⟩ : ∃ y, natC b c = y := ⟨_, rfl⟩
  obtain ⟨z, hz⟩ : ∃ z, natC a c = z := ⟨_, rfl⟩
  have hxm : natC b a = -x := by rw [nat_C.anti a b, hx]
  have hx0 : (x == 0) = (a.toList == b.toList) := by
    rw [Bool.eq_iff_iff, beq_iff_eq, beq_iff_eq, ← hx, natC_zero]
    exact ⟨fun h => by rw [h], fun h => text_ext h⟩
  have htr : x ≤ 0 → y ≤ 0 → z ≤ 0 := by rw [← hx, ← hy, ← hz]; exact nat_C.tr a b c
  have N1 : Hid (a.size ≤ 200 → b.size ≤ 200 → ∀ W, Calls Try.prog 16 #[.string a, .string b] W fun e w' => e = .returned (.int .i64 x) ∧ Below W.heap.size W w') := Lib.hid (fun h1 h2 W => by rw [← hx]; exact fold_Natural a b (by omega) (by omega) W)
  have N2 : Hid (b.size ≤ 200 → c.size ≤ 200 → ∀ W, Calls Try.prog 16 #[.string b, .string c] W fun e w' => e = .returned (.int .i64 y) ∧ Below W.heap.size W w') := Lib.hid (fun h1 h2 W => by rw [← hy]; exact fold_Natural b c (by omega) (by omega) W)
  have N3 : Hid (a.size ≤ 200 → c.size ≤ 200 → ∀ W, Calls Try.prog 16 #[.string a, .string c] W fun e w' => e = .returned (.int .i64 z) ∧ Below W.heap.size W w') := Lib.hid (fun h1 h2 W => by rw [← hz]; exact fold_Natural a c (by omega) (by omega) W)
  have N4 : Hid (a.size ≤ 200 → b.size ≤ 200 → ∀ W, Calls Try.prog 16 #[.string b, .string a] W fun e w' => e = .returned (.int .i64 (-x)) ∧ Below W.heap.size W w') := Lib.hid (fun h1 h2 W => by rw [← hxm]; exact fold_Natural b a (by omega) (by omega) W)
  have hxr : -1 ≤ x ∧ x ≤ 1 := by rw [← hx]; exact tri_nat a b
  have HX0 := Lib.hid hx0
  have HTR := Lib.hid htr
  clear hx hy hz hxm hx0 htr
  go_enter Try.func5, Try.ntmps5
  go_wp2_with fail
  refine HG.out.mono ?_
  rintro e w1 ⟨q, rfl, hq, rfl⟩
  cases q with
  | true =>
    go_wp2_with fail
    go_ret
    exact ⟨rfl, bA⟩
  | false =>
    obtain ⟨-, hs⟩ := hq rfl
    have ha := hs a (by simp)
    have hb := hs b (by simp)
    have hc := hs c (by simp)
    clear hq hs
    go_wp2_with fail
    refine (N1.out ha hb _).mono ?_
    rintro e w1 ⟨rfl, b1⟩
    have hB1 := bA.trans (b1.mono bA.size)
    go_wp2_with fail
    refine (N2.out hb hc _).mono ?_
    rintro e w2 ⟨rfl, b2⟩
    have hB2 := hB1.trans (b2.mono hB1.size)
    go_wp2_with fail
    refine (N3.out ha hc _).mono ?_
    rintro e w3 ⟨rfl, b3⟩
    have hB3 := hB2.trans (b3.mono hB2.size)
    go_wp2_with fail
    refine (N4.out ha hb _).mono ?_
    rintro e w4 ⟨rfl, b4⟩
    have hB4 := hB3.trans (b4.mono hB3.size)
    clear b1 b2 b3 b4 hB1 hB2 hB3
    have hnn : ((-x : Int) != -x) = false := by simp
    have hx1 := HX0.out
    obtain ⟨q, hq⟩ : ∃ q, (a.toList == b.toList) = q := ⟨_, rfl⟩
    rw [hq] at hx1
    have hqq : (q != q) = false := by cases q <;> rfl
    have HA := Lib.hid (fun W => law39_alive W)
    go_upto_region 6 with fail
    clear hnn hx1 hq hqq
    by_cases h1 : x > 0
    · go_wp2_with fail
      refine (HA.out w4).mono ?_
      rintro e w5 ⟨rfl, b5⟩
      go_wp2_with fail
      go_ret
      exact ⟨rfl, hB4.trans (b5.mono hB4.size)⟩
    · by_cases h2 : y > 0
      · go_wp2_with fail
        refine (HA.out w4).mono ?_
        rintro e w5 ⟨rfl, b5⟩
        go_wp2_with fail
        go_ret
        exact ⟨rfl, hB4.trans (b5.mono hB4.size)⟩
      · have h3 : z ≤ 0 := HTR.out (by omega) (by omega)
        go_wp2_with fail
        refine (HA.out w4).mono ?_
        rintro e w5 ⟨rfl, b5⟩
        go_wp2_with fail
        go_ret
        exact ⟨rfl, hB4.trans (b5.mono hB4.size)⟩
end Go.Proofs.Ytomefcngaclehaa
