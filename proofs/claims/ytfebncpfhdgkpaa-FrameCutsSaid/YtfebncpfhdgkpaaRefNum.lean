/- Contracts of the reference's Num and Read (the wire's numbers and texts). -/
import Derived.Test.YtfebncpfhdgkpaaRdrT
import Derived.OwnWalk
namespace Go.Proofs.Ytfebncpfhdgkpaa
open Go.RowKit Go.Sort

set_option maxRecDepth 100000 in
set_option maxHeartbeats 2000000 in
theorem ref03_Num (A : Option Addr) (n c : Nat) (l : List UInt8) (w : World) (B : Nat) (hr : Reads w B 1 A n (l.map vb)) (hn : n ≤ 4611686018427387904) :
    Calls Try.prog 80 #[.slice A n c] w fun e w' => e = .returned (.tuple #[.int .i64 ((rnum l).1 : Nat), .int .i64 ((rnum l).2.1 : Nat), .int .i64 (rnum l).2.2]) ∧ w = w' := by
  have HL := Lib.hid hr.len
  have HR := Lib.hid hr
  clear hr
  obtain ⟨Q, hQ⟩ : ∃ Q, rnum l = Q := ⟨_, rfl⟩
  have h0 : rnumF (l.drop 0) 0 0 = Q := hQ
  rw [hQ]
  clear hQ
  go_enter Try.func80, Try.ntmps80
  go_wp2_with fail
  go_loopw [5, 6] (fun v5 v6 wr => ∃ i N : Nat, v5 = .int .i64 N ∧ v6 = .int .i64 i ∧ i ≤ n ∧ N < 4611686018427387904 ∧ rnumF (l.drop i) i N = Q ∧ w = wr) (fun _ v6 _ => n - (intOf v6).toNat)
  case atStart => exact ⟨0, 0, rfl, rfl, Nat.zero_le _, by decide, h0, rfl⟩
  case round =>
    clear h0
    obtain ⟨i, N, rfl, rfl, hin, hN, hq, rfl⟩ := hrel
    by_cases hi : i < n
    · obtain ⟨b, off, rfl, hb, hc⟩ := Reads.form HR.out (by omega)
      have hil : i < l.length := by have := HL.out; omega
      have q0 := hc i (vb l[i]) (by simp [hil])
      rw [List.drop_eq_getElem_cons hil, rnumF_cons] at hq
      unfold vb at q0
      have hx256 : l[i].toNat < 256 := UInt8.toNat_lt _
      generalize l[i].toNat = x at q0 hx256 hq
      have HQ := Lib.hid hq
      clear hq hc hil
      by_cases hbad : (i = 0 ∧ x = 128) ∨ 36028797018963968 ≤ N
      · have S : Hid (Q = (0, 0, 31)) := Lib.hid (by rw [← HQ.out, if_pos hbad])
        have hcase : (i = 0 ∧ ((x : Int) == 128) = true) ∨ (i = 0 ∧ ((x : Int) == 128) = false ∧ decide (36028797018963968 ≤ (N : Int)) = true) ∨ (((i : Int) == 0) = false ∧ decide (36028797018963968 ≤ (N : Int)) = true) := by simp; omega
        clear hbad HQ
        rcases hcase with ⟨h1, h2⟩ | ⟨h1, h2, h3⟩ | ⟨h1, h3⟩
        case' inl => have q1 : w.cell? ⟨b, off, none⟩ = some (.int .u8 x) := by rw [h1] at q0; exact q0
        case' inl => replace h1 : ((i : Int) == 0) = true := by simp [h1]
        case' inr.inl => have q1 : w.cell? ⟨b, off, none⟩ = some (.int .u8 x) := by rw [h1] at q0; exact q0
        case' inr.inl => replace h1 : ((i : Int) == 0) = true := by simp [h1]
        all_goals
          have hn0 : 0 < n := by omega
          go_wp2_with fail
          go_ret3
          exact ⟨by rw [S.out]; rfl, by first | rfl | trivial⟩
      · have hcase : (((i : Int) == 0) = false ∨ (i = 0 ∧ ((x : Int) == 128) = false)) := by simp; omega
        have ha2 : N < 36028797018963968 := by omega
        have hdb : decide (36028797018963968 ≤ (N : Int)) = false := by simp; omega
        by_cases hlo : x < 128
        · have S : Hid (Q = (N * 128 + x, i + 1, 0)) := Lib.hid (by rw [← HQ.out, if_neg hbad, if_pos hlo])
          have hdl : decide ((x : Int) < 128) = true := by simp; omega
          clear hbad HQ
          rcases hcase with h1 | ⟨h1, h2⟩
          case' inr => have q1 : w.cell? ⟨b, off, none⟩ = some (.int .u8 x) := by rw [h1] at q0; exact q0
          case' inr => replace h1 : ((i : Int) == 0) = true := by simp [h1]
          all_goals
            have hn0 : 0 < n := by omega
            go_wp2_with fail
            go_ret3
            exact ⟨by rw [S.out]; go_num, by first | rfl | trivial⟩
        · have S : Hid (rnumF (l.drop (i + 1)) (i + 1) (N * 128 + x % 128) = Q) := Lib.hid (by rw [← HQ.out, if_neg hbad, if_neg hlo])
          have hdl : decide ((x : Int) < 128) = false := by simp; omega
          have hsub : ((x : Int) - 128) % 256 = ((x % 128 : Nat) : Int) := by omega
          clear hbad HQ
          rcases hcase with h1 | ⟨h1, h2⟩
          case' inr => have q1 : w.cell? ⟨b, off, none⟩ = some (.int .u8 x) := by rw [h1] at q0; exact q0
          case' inr => replace h1 : ((i : Int) == 0) = true := by simp [h1]
          all_goals
            have hn0 : 0 < n := by omega
            go_wp2_with fail
            go_roundw
            case rel => exact ⟨i + 1, N * 128 + x % 128, by go_num, by go_num, by omega, by omega, S.out, by trivial⟩
            case measure => simp [intOf]; omega
    · have hl0 : l.drop i = [] := List.drop_eq_nil_of_le (by have := HL.out; omega)
      rw [hl0] at hq
      subst hq
      clear hl0
      go_wp2_with fail
      go_ret3
      exact ⟨rfl, rfl⟩
end Go.Proofs.Ytfebncpfhdgkpaa
