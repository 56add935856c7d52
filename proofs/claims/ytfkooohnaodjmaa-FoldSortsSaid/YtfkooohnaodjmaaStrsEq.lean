/- Contract of slices.Equal of two slices of texts. -/
import Derived.Test.YtfkooohnaodjmaaBytesA
import Derived.Test.YtfkooohnaodjmaaStrs
namespace Go.Proofs.Ytfkooohnaodjmaa
open Go.RowKit

theorem Reads.lens {w : World} {B n : Nat} {A : Option Addr} {l : List (List UInt8)} (h : Reads w B 1 A n (l.map sv)) : l.length = n := by have := h.1; simpa using this
theorem take_succ_eqS {l1 l2 : List (List UInt8)} {k : Nat} (h : l1.take k = l2.take k) (h1 : k < l1.length) (h2 : k < l2.length) (he : l1[k] = l2[k]) : l1.take (k + 1) = l2.take (k + 1) := by
  rw [List.take_succ_eq_append_getElem h1, List.take_succ_eq_append_getElem h2, h, he]
def EqRelS (w : World) (l1 l2 : List (List UInt8)) (n : Nat) (v13 : Value) (wr : World) : Prop :=
  ∃ k m : Nat, k ≤ n ∧ v13 = .int .i64 k ∧ wr = w.drewN m ∧ l1.take k = l2.take k

set_option maxRecDepth 100000 in
set_option maxHeartbeats 1000000 in
theorem strs_Equal (A1 A2 : Option Addr) (n1 n2 c1 c2 : Nat) (l1 l2 : List (List UInt8)) (w : World) (h1 : Reads w w.heap.size 1 A1 n1 (l1.map sv)) (h2 : Reads w w.heap.size 1 A2 n2 (l2.map sv)) (hm : n1 ≤ 9223372036854775807) :
    Calls Try.prog 16 #[.slice A1 n1 c1, .slice A2 n2 c2] w fun e w' => e = .returned (.bool (decide (l1 = l2))) ∧ Below w.heap.size w w' := by
  have e1 := h1.lens
  have e2 := h2.lens
  by_cases hn : n1 = n2
  · subst hn
    have E1 := Lib.hid e1
    have E2 := Lib.hid e2
    clear e1 e2
    by_cases hz : n1 = 0
    · subst hz
      have hl : l1 = l2 := by rw [List.eq_nil_of_length_eq_zero E1.out, List.eq_nil_of_length_eq_zero E2.out]
      have HL := Lib.hid hl
      clear hl h1 h2
      go_enter Try.func16, Try.ntmps16
      go_wp2
      refine wp_loop_rounds 1 ?_
      rw [rounds_succ]
      go_wp2
      go_ret
      exact ⟨ret_bool' (by simp [HL.out]), Below.refl _ _⟩
    · have hp : 0 < n1 := by omega
      obtain ⟨b1, o1, rfl, hb1, hc1⟩ := h1.form hp
      obtain ⟨b2, o2, rfl, hb2, hc2⟩ := h2.form hp
      have HC1 := Lib.hid hc1
      have HC2 := Lib.hid hc2
      clear hc1 hc2 h1 h2 hz
      go_enter Try.func16, Try.ntmps16
      go_wp2
      go_loopw [13] (fun v13 wr => EqRelS w l1 l2 n1 v13 wr) (fun v13 _ => n1 - (intOf v13).toNat)
      case atStart => exact ⟨0, 0, by omega, rfl, rfl, by simp⟩
      case round =>
        obtain ⟨k, m, hk, rfl, rfl, htake⟩ := hrel
        have HT := Lib.hid htake
        clear htake
        by_cases hlt : k < n1
        · have k1 : k < l1.length := by rw [E1.out]; exact hlt
          have k2 : k < l2.length := by rw [E2.out]; exact hlt
          have q1 : ∀ m, (w.drewN m).cell? ⟨b1, o1 + k, none⟩ = some (.string ⟨l1[k].toArray⟩) := fun m => HC1.out k _ (by simp [k1, sv])
          have q2 : ∀ m, (w.drewN m).cell? ⟨b2, o2 + k, none⟩ = some (.string ⟨l2[k].toArray⟩) := fun m => HC2.out k _ (by simp [k2, sv])
          by_cases he : l1[k] = l2[k]
          · have HS := Lib.hid (take_succ_eqS HT.out k1 k2 he)
            have e3 : l1[k] = l2[k] := he
            rw [e3] at q1
            generalize l2[k] = x at q1 q2
            clear e3 he k1 k2
            go_wp2
            go_quiet (fail)
            go_wp2
            go_roundw
            case rel => exact ⟨k + 1, _, by omega, by go_num, rfl, HS.out⟩
            case measure => simp [intOf]; omega
          · have hne : l1 ≠ l2 := by intro h; subst h; exact he rfl
            have HN := Lib.hid hne
            have he' : ¬ l1[k] = l2[k] := he
            generalize l1[k] = x at q1 he'
            generalize l2[k] = y at q2 he'
            have hb9 : (x == y) = false := beq_eq_false_iff_ne.2 he'
            clear hne he k1 k2
            go_wp2
            go_quiet (fail)
            go_wp2
            go_ret
            exact ⟨ret_bool' (by simp [HN.out]), below_drewN (below_drewN (Below.refl _ _) _) _⟩
        · have hl : l1 = l2 := by
            have h := HT.out
            rwa [List.take_of_length_le (by rw [E1.out]; omega), List.take_of_length_le (by rw [E2.out]; omega)] at h
          have HL := Lib.hid hl
          clear hl
          go_wp2
          go_ret
          exact ⟨ret_bool' (by simp [HL.out]), below_drewN (Below.refl _ _) _⟩
  · have hl : l1 ≠ l2 := by intro h; rw [h] at e1; omega
    have HL := Lib.hid hl
    clear hl e1 e2 h1 h2
    go_enter Try.func16, Try.ntmps16
    go_wp2
    go_ret
    exact ⟨ret_bool' (by simp [HL.out]), Below.refl _ _⟩
end Go.Proofs.Ytfkooohnaodjmaa
