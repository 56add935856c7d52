/- Contracts of the law's own great and alive. -/
import Derived.Test.YtfebncpfhdgkpaaSieveH
namespace Go.Proofs.Ytfebncpfhdgkpaa
open Go.RowKit Go.Sort

theorem getD_keep (m : List Bool) (p i : Nat) (h : m.getD i false = true) : (m.set p true).getD i false = true := by
  by_cases hp : p < m.length
  · rw [getD_set m p i hp]; split <;> trivial
  · rw [List.set_eq_of_length_le (by omega)]; exact h
theorem setAll_keep : ∀ (ps : List Nat) (m : List Bool) (i : Nat), m.getD i false = true → (setAll m ps).getD i false = true
  | [], _, _, h => h
  | p :: ps, m, i, h => by
    show (setAll (m.set p true) ps).getD i false = true
    exact setAll_keep ps _ i (getD_keep m p i h)
theorem setAll_get : ∀ (ps : List Nat) (m : List Bool) (i : Nat), i ∈ ps → i < m.length → (setAll m ps).getD i false = true
  | [], _, _, h, _ => absurd h (by simp)
  | p :: ps, m, i, h, hi => by
    show (setAll (m.set p true) ps).getD i false = true
    by_cases he : i = p
    · subst he
      exact setAll_keep ps _ i (by rw [getD_set m i i hi, if_pos rfl])
    · exact setAll_get ps _ i (by simpa [he] using h) (by simpa using hi)
/-- What was put in may be there. -/
theorem mayB_addKey (m : List Bool) (R : List Nat) : mayB (addKey m R) R = true := by
  unfold mayB
  rw [addKey_len]
  by_cases hm : m.length = 0
  · have : addKey m R = [] := List.eq_nil_of_length_eq_zero (by rw [addKey_len]; exact hm)
    rw [this]; rfl
  · rw [Bool.or_eq_true, List.all_eq_true]
    right
    intro p hp
    refine setAll_get _ _ _ hp ?_
    have : 0 < m.length := by omega
    simp only [places, List.mem_cons, List.not_mem_nil, or_false] at hp
    rcases hp with rfl | rfl | rfl | rfl <;> exact place_lt _ _ _ this
theorem mayB_none (n : Nat) (hn : 0 < n) (R : List Nat) : mayB (List.replicate n false) R = false := by
  unfold mayB
  have : (List.replicate n false).isEmpty = false := by cases n with | zero => omega | succ n => rfl
  rw [this, Bool.false_or, List.length_replicate]
  simp [places, List.getD_eq_getElem?_getD, List.getElem?_replicate, place_lt _ _ _ hn]

set_option maxRecDepth 100000 in
set_option maxHeartbeats 2000000 in
theorem law14_great (A : Option Addr) (n c : Nat) (K : List ByteArray) (w : World) (hr : Reads w w.heap.size 1 A n (K.map Value.string)) (hn : n ≤ 9223372036854775807) (hK : ∀ s ∈ K, s.size ≤ 9223372036854775807) :
    Calls Try.prog 38 #[.slice A n c] w fun e w' => w = w' ∧ ∃ g, e = .returned (.bool g) ∧ (g = false → n ≤ 300 ∧ ∀ s ∈ K, s.size ≤ 500) := by
  have hll : K.length = n := by have := hr.1; simpa using this
  have HL := Lib.hid hll
  have HR := Lib.hid hr
  have HK := Lib.hid hK
  clear hr hll hK
  go_enter Try.func38, Try.ntmps38
  by_cases h3 : 300 < n
  · go_wp2_with fail
    go_ret
    exact ⟨rfl, _, rfl, fun h => absurd h (by decide)⟩
  go_wp2_with fail
  go_loopw [3] (fun v3 wr => ∃ i : Nat, v3 = .int .i64 i ∧ i ≤ n ∧ (∀ j, (h : j < K.length) → j < i → K[j].size ≤ 500) ∧ w = wr) (fun v3 _ => n - (intOf v3).toNat)
  case atStart => exact ⟨0, rfl, Nat.zero_le _, fun j _ h => absurd h (by omega), rfl⟩
  case round =>
    obtain ⟨i, rfl, hin, hall, rfl⟩ := hrel
    have HALL := Lib.hid hall
    clear hall
    by_cases hi : i < n
    · obtain ⟨b, off, rfl, hb, hc⟩ := Reads.form HR.out (by omega)
      have hil : i < K.length := by have := HL.out; omega
      have q0 := hc i (Value.string K[i]) (by simp [hil])
      have hks := HK.out K[i] (List.getElem_mem hil)
      obtain ⟨s, hs⟩ : ∃ s, K[i] = s := ⟨_, rfl⟩
      rw [hs] at q0 hks
      have HS := Lib.hid hs
      clear hc hs
      by_cases h5 : 500 < s.size
      · go_wp2_with fail
        go_ret
        exact ⟨rfl, _, rfl, fun h => absurd h (by decide)⟩
      · go_wp2_with fail
        go_roundw
        case rel =>
          refine ⟨i + 1, by go_num, by omega, ?_, trivial⟩
          intro j hj hj1
          by_cases he : j = i
          · subst he; rw [HS.out]; omega
          · exact HALL.out j hj (by omega)
        case measure => simp [intOf]; omega
    · go_wp2_with fail
      go_ret
      refine ⟨rfl, _, rfl, fun _ => ⟨by omega, ?_⟩⟩
      intro s hs
      obtain ⟨j, hj, rfl⟩ := List.getElem_of_mem hs
      exact HALL.out j hj (by have := HL.out; omega)

theorem own_str (w : World) (a : ByteArray) : (w.alloc (.cells #[.string a] 9)).ownsRow w.heap.size 9 1 (.slice (some ⟨w.heap.size, 0, none⟩) 1 1) 1 [.string a] :=
  World.ownsRow_lit w #[.string a] 1 (Nat.le_refl _) (by decide) rfl

set_option maxRecDepth 100000 in
set_option maxHeartbeats 2000000 in
theorem law14_alive (w : World) :
    Calls Try.prog 47 #[] w fun e w' => e = .returned (.bool true) ∧ Below w.heap.size w w' := by
  go_enter Try.func47, Try.ntmps47
  go_wp2_with fail
  have h0 : ofB (fN 0) (keyRunes []) = List.replicate 8 false := rfl
  have hS1 := sieve_Of none 0 0 [] w Reads.none_ (by omega)
  rw [h0] at hS1
  refine hS1.mono ?_
  rintro e w1 ⟨v1, rfl, O1, b1⟩
  have hB := b1
  obtain ⟨A1, c1, rfl, _, R1⟩ := O1.reads
  have hl1 : (pk (List.replicate 8 false)).length = 1 := by rw [pk_len]; simp
  rw [hl1] at R1 ⊢
  clear O1 b1 hS1 R1
  go_wp2_with fail
  refine (filter_Size A1 1 c1 w1 (by omega)).mono ?_
  rintro e w2 ⟨rfl, b2⟩
  replace hB := hB.trans (b2.mono hB.size)
  clear b2
  go_wp2_with fail
  have hS2 := sieve_Of none 0 0 [] w2 Reads.none_ (by omega)
  rw [h0] at hS2
  refine hS2.mono ?_
  rintro e w3 ⟨v3, rfl, O3, b3⟩
  replace hB := hB.trans (b3.mono hB.size)
  obtain ⟨A3, c3, rfl, _, R3⟩ := O3.reads
  rw [hl1] at R3 ⊢
  clear O3 b3 hS2
  have HM3 := Lib.hid (filter_May A3 1 c3 (List.replicate 8 false) ⟨#[97]⟩ w3 R3 (by simp) (by omega))
  rw [mayB_none 8 (by decide)] at HM3
  clear R3
  go_wp2_with fail
  refine HM3.out.mono ?_
  rintro e w4 ⟨rfl, b4⟩
  replace hB := hB.trans (b4.mono hB.size)
  clear b4 HM3
  go_wp2_with fail
  have O5 := Reads.of_own (own_str w4 ⟨#[97]⟩)
  replace hB := hB.alloc hB.size (.cells #[.string ⟨#[97]⟩] 9)
  have hS3 := Lib.hid (sieve_Of _ 1 1 [⟨#[97]⟩] _ O5 (by omega))
  clear O5
  refine hS3.out.mono ?_
  rintro e w5 ⟨v5, rfl, O5, b5⟩
  replace hB := hB.trans (b5.mono hB.size)
  obtain ⟨A5, c5, rfl, _, R5⟩ := O5.reads
  have hl5 : (pk (ofB (fN 1) (keyRunes [⟨#[97]⟩]))).length = 2 := by rw [pk_len, ofB_len]; rfl
  rw [hl5] at R5 ⊢
  clear O5 b5 hS3
  have HM5 := Lib.hid (filter_May A5 2 c5 (ofB (fN 1) (keyRunes [⟨#[97]⟩])) ⟨#[97]⟩ w5 R5 (by rw [ofB_len]; rfl) (by omega))
  rw [show ofB (fN 1) (keyRunes [⟨#[97]⟩]) = addKey (List.replicate (8 * fN 1) false) (rest ⟨#[97]⟩ 0) from rfl, mayB_addKey] at HM5
  clear R5
  go_wp2_with fail
  refine HM5.out.mono ?_
  rintro e w6 ⟨rfl, b6⟩
  replace hB := hB.trans (b6.mono hB.size)
  clear b6 HM5
  have HM7 := Lib.hid (filter_May none 0 0 [] ⟨#[97]⟩ w6 Reads.none_ (by simp) (by omega))
  rw [show mayB [] (rest ⟨#[97]⟩ 0) = true from rfl] at HM7
  go_wp2_with fail
  refine HM7.out.mono ?_
  rintro e w7 ⟨rfl, b7⟩
  replace hB := hB.trans (b7.mono hB.size)
  clear b7 HM7
  go_wp2_with fail
  go_ret
  exact ⟨rfl, hB⟩
end Go.Proofs.Ytfebncpfhdgkpaa
