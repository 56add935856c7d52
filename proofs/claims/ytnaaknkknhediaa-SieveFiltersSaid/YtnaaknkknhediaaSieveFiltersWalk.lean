/- The walk of the law SieveFilters. -/
import Derived.Test.YtnaaknkknhediaaSieveJ
import Derived.Test.YtnaaknkknhediaaSieveK
namespace Go.Proofs.Ytnaaknkknhediaa
open Go.RowKit Go.Sort

set_option maxRecDepth 100000 in
set_option maxHeartbeats 4000000 in
theorem sieve_filters_walk (w : World) (A : Option Addr) (n c : Nat) (K : List ByteArray) (_ : n ≤ c) (_ : c ≤ maxLen) (_ : K.length = n) (hr : Reads w w.heap.size 1 A n (K.map Value.string)) (hK : ∀ s ∈ K, s.size ≤ maxLen) (_ : A = none → c = 0)
    (s : ByteArray) (_ : s.size ≤ maxLen) :
    Calls Try.prog 14 #[.slice A n c, .string s] w fun e w' => e = .returned (.bool true) ∧ Below w.heap.size w w' := by
  have hn : n ≤ 9223372036854775807 := by
    have h1 : c ≤ maxLen := by assumption
    unfold maxLen at h1
    omega
  have hKm : ∀ s ∈ K, s.size ≤ 9223372036854775807 := fun s h => by have := hK s h; unfold maxLen at this; omega
  have hG := Lib.hid (law14_great A n c K w hr hn hKm)
  have HR := Lib.hid hr
  clear hK hKm hr
  go_enter Try.func14, Try.ntmps14
  go_wp2_with fail
  refine hG.out.mono ?_
  clear hG
  rintro e w1 ⟨rfl, g, rfl, hg⟩
  cases g
  case true =>
    clear hg
    go_wp2_with fail
    go_ret
    exact ⟨rfl, Below.refl _ _⟩
  obtain ⟨h3, h5⟩ := hg rfl
  have H5 := Lib.hid h5
  clear hg h5
  by_cases h6 : 500 < s.size
  · go_wp2_with fail
    go_ret
    exact ⟨rfl, Below.refl _ _⟩
  have hO1 := Lib.hid (sieve_Of A n c K w HR.out (by omega))
  go_wp2_with fail
  refine hO1.out.mono ?_
  clear hO1
  rintro e w2 ⟨v2, rfl, O2, b2⟩
  have hB := b2
  have hO2 := Lib.hid (ref14_Of A n c K w2 ((HR.out.below hB).more hB.size) (by omega) (fun s h => by have := H5.out s h; omega))
  have hN : fN n ≤ 1000 := by unfold fN; omega
  have hN0 : 0 < fN n := by unfold fN; omega
  have hml : (ofB (fN n) (keyRunes K)).length = 8 * fN n := ofB_len _ _
  generalize ofB (fN n) (keyRunes K) = m at *
  generalize fN n = N at *
  have hpl : (pk m).length = N := by rw [pk_len, hml]; omega
  obtain ⟨A2, c2, rfl, _, R2⟩ := O2.reads
  rw [hpl] at R2 ⊢
  clear O2 b2
  go_wp2_with fail
  refine hO2.out.mono ?_
  clear hO2
  rintro e w3 ⟨v3, rfl, O3, b3⟩
  replace hB := hB.trans (b3.mono hB.size)
  have R2' := (R2.below b3).more b3.size
  obtain ⟨A3, c3, rfl, _, R3⟩ := O3.reads
  have HML := Lib.hid hml
  rw [hml] at R3 ⊢
  clear O3 b3 R2 hml
  have BF := Blk.new w3 94 #[.slice A2 N c2]
  go_wp2_with fail
  have hs3 := hB.size
  have R2 := R2'.alloc (Nat.le_refl _) (.cells #[.slice A2 N c2] 94)
  have R4 := R3.alloc (Nat.le_refl _) (.cells #[.slice A2 N c2] 94)
  replace hB := hB.alloc hB.size (.cells #[.slice A2 N c2] 94)
  have hs4 : w3.heap.size ≤ (w3.alloc (.cells #[.slice A2 N c2] 94)).heap.size := by simp
  clear R2' R3
  generalize w3.alloc (.cells #[.slice A2 N c2] 94) = w4 at *
  replace R2 := R2.more hs4
  replace R4 := R4.more hs4
  have HI := Lib.hid (law14_is A2 N c2 A3 (8 * N) c3 m w4 R2 R4 rfl hN0 (by omega))
  refine HI.out.mono ?_
  clear HI
  rintro e w5 ⟨rfl, b5⟩
  replace hB := hB.trans (b5.mono hB.size)
  replace R2 := (R2.below b5).more b5.size
  replace R4 := (R4.below b5).more b5.size
  replace BF := BF.below b5 BF.lt
  have cf := BF.cell
  clear b5
  have HM := Lib.hid (filter_May A2 N c2 m s w5 R2 HML.out (by omega))
  clear R2
  go_wp2_with fail
  refine HM.out.mono ?_
  clear HM
  rintro e w6 ⟨rfl, b6⟩
  replace hB := hB.trans (b6.mono hB.size)
  replace R4 := (R4.below b6).more b6.size
  have HM := Lib.hid (ref14_May A3 (8 * N) c3 m s w6 R4 (by omega) (by omega))
  clear R4 b6 cf BF
  generalize mayB m (rest s 0) = y at *
  go_wp2_with fail
  refine HM.out.mono ?_
  clear HM
  rintro e w7 ⟨rfl, b7⟩
  replace hB := hB.trans (b7.mono hB.size)
  clear b7
  have HA := Lib.hid (law14_alive w7)
  go_wp2_with fail
  refine HA.out.mono ?_
  clear HA
  rintro e w8 ⟨rfl, b8⟩
  replace hB := hB.trans (b8.mono hB.size)
  clear b8
  go_wp2_with fail
  go_ret
  exact ⟨rfl, hB⟩
end Go.Proofs.Ytnaaknkknhediaa
