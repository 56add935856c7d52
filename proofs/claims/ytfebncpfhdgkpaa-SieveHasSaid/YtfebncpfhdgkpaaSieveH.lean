/- Contracts of the reference's May and Bytes. -/
import Derived.Test.YtfebncpfhdgkpaaSieveG
namespace Go.Proofs.Ytfebncpfhdgkpaa
open Go.RowKit Go.Sort

theorem places_get (R : List Nat) (n j : Nat) (hj : j < 4) : ((places R n).map fun x : Nat => (x : Int))[j]? = some ((place R n j : Nat) : Int) := by
  match j, hj with
  | 0, _ => rfl
  | 1, _ => rfl
  | 2, _ => rfl
  | 3, _ => rfl
theorem all_places {m : List Bool} {R : List Nat} (h : ∀ j, j < 4 → m.getD (place R m.length j) false = true) : mayB m R = true := by
  unfold mayB
  cases m.isEmpty
  · simp only [places, List.all_cons, List.all_nil, Bool.false_or, Bool.and_true, h 0 (by decide), h 1 (by decide), h 2 (by decide), h 3 (by decide)]
  · rfl
theorem one_place {m : List Bool} {R : List Nat} (hne : m ≠ []) {j : Nat} (hj : j < 4) (h : m.getD (place R m.length j) false = false) : mayB m R = false := by
  unfold mayB
  have : m.isEmpty = false := by cases m with | nil => exact absurd rfl hne | cons a r => rfl
  rw [this, Bool.false_or, List.all_eq_false]
  refine ⟨place R m.length j, ?_, by rw [h]; decide⟩
  unfold places
  match j, hj with
  | 0, _ => simp
  | 1, _ => simp
  | 2, _ => simp
  | 3, _ => simp

set_option maxRecDepth 100000 in
set_option maxHeartbeats 1000000 in
theorem ref14_May (A : Option Addr) (n c : Nat) (m : List Bool) (s : ByteArray) (w : World) (hr : Reads w w.heap.size 1 A n (m.map Value.bool)) (hn : n < 4294967296) (hs : s.size ≤ 1000000000) :
    Calls Try.prog 62 #[.slice A n c, .string s] w fun e w' => e = .returned (.bool (mayB m (rest s 0))) ∧ Below w.heap.size w w' := by
  have hml : m.length = n := by have := hr.1; simpa using this
  obtain ⟨R, hR⟩ : ∃ R, rest s 0 = R := ⟨_, rfl⟩
  by_cases hn0 : n = 0
  · have hmn : mayB m R = true := by
      have : m = [] := List.eq_nil_of_length_eq_zero (by omega)
      rw [this]; rfl
    rw [hR, hmn]
    have hn0' : ((n : Int) == 0) = true := by simp [hn0]
    clear hml hn0 hR hmn
    go_enter Try.func62, Try.ntmps62
    go_wp2_with fail
    go_ret
    exact ⟨rfl, Below.refl _ _⟩
  have hn0' : ((n : Int) == 0) = false := by simp [hn0]
  have hne : m ≠ [] := by intro e; rw [e] at hml; simp at hml; omega
  have HC := Lib.hid (ref14_bits s n w hs (by omega) hn)
  rw [hR] at HC ⊢
  have HR := Lib.hid hr
  have HL := Lib.hid hml
  have HNE := Lib.hid hne
  have hpos : 0 < n := by omega
  clear hr hml hn0 hR hne
  go_enter Try.func62, Try.ntmps62
  go_wp2_with fail
  refine HC.out.mono ?_
  rintro e w1 ⟨v1, rfl, OI, hB⟩
  obtain ⟨Ai, ci, rfl, _, _, hfi⟩ := own_form OI
  obtain ⟨gi, rfl, hgi, hgi2, hci⟩ := hfi (by simp [places])
  have hcI : ∀ j, j < 4 → w1.cell? ⟨gi, j, none⟩ = some (.int .i64 ((place R n j : Nat) : Int)) := by
    intro j hj
    refine hci j _ ?_
    rw [List.getElem?_map, places_get R n j hj]
    rfl
  have HCI := Lib.hid hcI
  rw [show ((places R n).map fun x : Nat => (x : Int)).length = 4 from rfl]
  obtain ⟨b, off, rfl, hb, hc⟩ := Reads.form (HR.out.below hB) hpos
  have HCm := Lib.hid hc
  clear hcI hfi OI hci HC hc
  go_wp2_with fail
  go_loop [6] (fun v6 => ∃ j : Nat, v6 = .int .i64 j ∧ j ≤ 4 ∧ ∀ i, i < j → m.getD (place R m.length i) false = true) (fun v6 => 4 - (intOf v6).toNat)
  case atStart => exact ⟨0, rfl, by omega, fun i h => absurd h (by omega)⟩
  case round =>
    obtain ⟨j, rfl, hj, hall⟩ := hrel
    have HA := Lib.hid hall
    clear hall
    by_cases hj4 : j < 4
    · have c1 := HCI.out j hj4
      have hpl := place_lt R n j hpos
      have hpm : place R n j < m.length := by rw [HL.out]; exact hpl
      have c2 := HCm.out (place R n j) (Value.bool m[place R n j]) (by simp [hpm])
      have hgd : m.getD (place R m.length j) false = m[place R n j] := by rw [HL.out, List.getD_eq_getElem?_getD, List.getElem?_eq_getElem hpm, Option.getD_some]
      obtain ⟨y, hy⟩ : ∃ y, m[place R n j] = y := ⟨_, rfl⟩
      rw [hy] at c2 hgd
      have HGD := Lib.hid hgd
      clear hy hgd hpm
      generalize place R n j = p at *
      cases y
      · have HE := Lib.hid (one_place HNE.out hj4 HGD.out)
        go_wp2_with fail
        go_ret
        exact ⟨by rw [HE.out]; rfl, hB⟩
      · have HE : Hid (∀ i, i < j + 1 → m.getD (place R m.length i) false = true) := Lib.hid (fun i hi => by
          rcases Nat.lt_or_ge i j with h | h
          · exact HA.out i h
          · have : i = j := by omega
            rw [this]; exact HGD.out)
        go_wp2_with fail
        go_round
        case rel => exact ⟨j + 1, by go_num, by omega, HE.out⟩
        case measure => simp [intOf]; omega
    · have HE := Lib.hid (all_places (m := m) (R := R) (fun i hi => HA.out i (by omega)))
      go_wp2_with fail
      go_ret
      exact ⟨by rw [HE.out]; rfl, hB⟩
end Go.Proofs.Ytfebncpfhdgkpaa
