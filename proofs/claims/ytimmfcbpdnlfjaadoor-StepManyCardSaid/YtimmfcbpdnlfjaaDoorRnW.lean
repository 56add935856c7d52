/- Contracts of runes.escaped, runes.figure and the reference's figure. -/
import Derived.Test.YtimmfcbpdnlfjaaDoorRnU
import Derived.Test.YtimmfcbpdnlfjaaDoorRnM
import Derived.Laws.BitsAllLaws
namespace Go.Proofs.YtimmfcbpdnlfjaaDoor
open Go.RowKit Go.Sort Go.Lib

def FIGS : ByteArray := ⟨#[48, 49, 50, 51, 52, 53, 54, 55, 56, 57, 97, 98, 99, 100, 101, 102]⟩
theorem figs_at : ∀ k : Fin 16, FIGS[k.val]'(by have := k.isLt; exact this) = figC k.val := by decide +kernel
theorem figs_one (n : Nat) (h : n < 16) : FIGS.extract n (n + 1) = ⟨[figC n].toArray⟩ := by
  have : ∀ n : Fin 16, FIGS.extract n.val (n.val + 1) = ⟨[figC n.val].toArray⟩ := by decide +kernel
  exact this ⟨n, h⟩
theorem figs_cut (n : Nat) (h : n < 16) (a b : Int) (ha : a = n) (hb : b = n + 1) (w : World) : (Instr.slice 9 (.string FIGS) (some (.int .u8 a)) (some (.int .u8 b)) none).run Tryd.prog w = .ok (.string ⟨[figC n].toArray⟩) w := by
  rw [run_slice_string w _ FIGS _ _ _ _ Tryd.underlying9 (by omega) (by omega) (by have : FIGS.size = 16 := rfl; omega)]
  rw [show a.toNat = n by omega, show b.toNat = n + 1 by omega, figs_one _ h]
theorem figs_ix (k : Nat) (h : k < 16) (w : World) : (Instr.index 9 (.string FIGS) (.int .i64 (k : Int))).run Tryd.prog w = .ok (.int .u8 (figC k).toNat) w := by
  have hs : FIGS.size = 16 := rfl
  rw [run_index_string w _ _ _ _ Tryd.underlying9, dif_pos ⟨by omega, by omega⟩]
  have h1 := figs_at ⟨k, h⟩
  dsimp only at h1
  exact congrArg (fun c : UInt8 => (Result.ok (Value.int .u8 (c.toNat : Int)) w : Result Value)) h1
theorem fig_none (b : UInt8) (h : ∀ j, j < 16 → figC j ≠ b) : figI b = -1 := by
  unfold figI
  rw [if_neg, if_neg]
  · intro h1
    refine h (b.toNat - 87) (by omega) ?_
    unfold figC
    rw [if_neg (by omega)]
    apply UInt8.toNat_inj.1
    rw [UInt8.toNat_ofNat']
    omega
  · intro h1
    refine h (b.toNat - 48) (by omega) ?_
    unfold figC
    rw [if_pos (by omega)]
    apply UInt8.toNat_inj.1
    rw [UInt8.toNat_ofNat']
    omega

set_option maxRecDepth 100000 in
set_option maxHeartbeats 1000000 in
theorem runes_figure (b : UInt8) (w : World) : Calls Tryd.prog 51 #[.int .u8 b.toNat] w fun e w' => e = .returned (.int .i64 (figI b)) ∧ w = w' := by
  go_enter Tryd.func51, Tryd.ntmps51
  go_wp2_with fail
  go_loop [3, 4] (fun _ v4 => ∃ k : Nat, v4 = .int .i64 k ∧ k ≤ 16 ∧ ∀ j, j < k → figC j ≠ b) (fun _ v4 => 16 - (RowKit.intOf v4).toNat)
  case atStart => exact ⟨0, rfl, by omega, fun j hj => absurd hj (by omega)⟩
  case round =>
    obtain ⟨k, rfl, hk, hn⟩ := hrel
    have HN := Lib.hid hn
    clear hn
    by_cases hlt : k < 16
    · have hsz : FIGS.size = 16 := rfl
      have hix : ∀ w, (Instr.index 9 (.string ⟨#[48, 49, 50, 51, 52, 53, 54, 55, 56, 57, 97, 98, 99, 100, 101, 102]⟩) (.int .i64 (k : Int))).run Tryd.prog w = .ok (.int .u8 (figC k).toNat) w := fun w => figs_ix k hlt w
      by_cases he : figC k = b
      · have hq : (((figC k).toNat : Int) == (b.toNat : Int)) = true := by rw [he]; simp
        have HR : Hid (figI b = k) := Lib.hid (by rw [← he, figI_of k hlt])
        clear he
        go_wp2_with fail
        go_ret
        exact ⟨ret_i HR.out.symm, rfl⟩
      · have hq : (((figC k).toNat : Int) == (b.toNat : Int)) = false := by
          rw [beq_eq_false_iff_ne]
          intro e
          exact he (UInt8.toNat_inj.1 (by omega))
        have HE := Lib.hid he
        clear he
        go_wp2_with fail
        go_round
        case rel => exact ⟨k + 1, by go_num, by omega, fun j hj => by
          rcases Nat.lt_or_ge j k with h | h
          · exact HN.out j h
          · rw [show j = k by omega]; exact HE.out⟩
        case measure => simp [RowKit.intOf]; omega
    · have HR : Hid (figI b = -1) := Lib.hid (fig_none b (fun j hj => HN.out j (by omega)))
      go_wp2_with fail
      go_ret
      exact ⟨ret_i HR.out.symm, rfl⟩

set_option maxRecDepth 100000 in
set_option maxHeartbeats 1000000 in
theorem ref01_figure (b : UInt8) (w : World) : Calls Tryd.prog 54 #[.int .u8 b.toNat] w fun e w' => e = .returned (.int .i64 (figI b)) ∧ w = w' := by
  have hb := b.toNat_lt
  obtain ⟨x, hx⟩ : ∃ x, b.toNat = x := ⟨_, rfl⟩
  have hf : figI b = if 48 ≤ x ∧ x ≤ 57 then (x : Int) - 48 else if 97 ≤ x ∧ x ≤ 102 then (x : Int) - 87 else -1 := by rw [← hx]; rfl
  obtain ⟨F, hF⟩ : ∃ F, figI b = F := ⟨_, rfl⟩
  rw [hF] at hf ⊢
  rw [hx] at hb ⊢
  have HF := Lib.hid hf
  clear hx hF hf
  rcases (show x < 48 ∨ (48 ≤ x ∧ x ≤ 57) ∨ (58 ≤ x ∧ x < 97) ∨ (97 ≤ x ∧ x ≤ 102) ∨ 103 ≤ x by omega) with h | h | h | h | h
  all_goals
    go_enter Tryd.func54, Tryd.ntmps54
    go_wp2_with fail
    go_ret
    exact ⟨ret_i (by rw [HF.out]; repeat' split; all_goals omega), rfl⟩

set_option maxRecDepth 100000 in
set_option maxHeartbeats 1000000 in
theorem runes_escaped (c : UInt8) (w : World) : Calls Tryd.prog 56 #[.int .u8 c.toNat] w fun e w' => e = .returned (.string ⟨(escB c).toArray⟩) ∧ Below w.heap.size w w' := by
  have hb := c.toNat_lt
  have hc1 : ∀ w, (Instr.slice 9 (.string ⟨#[48, 49, 50, 51, 52, 53, 54, 55, 56, 57, 97, 98, 99, 100, 101, 102]⟩) (some (.int .u8 ((c.toNat : Int) / 16))) (some (.int .u8 ((c.toNat : Int) / 16 + 1))) none).run Tryd.prog w = .ok (.string ⟨[figC (c.toNat / 16)].toArray⟩) w := by
    exact fun w => figs_cut (c.toNat / 16) (by omega) _ _ (by omega) (by omega) w
  have hc2 : ∀ w, (Instr.slice 9 (.string ⟨#[48, 49, 50, 51, 52, 53, 54, 55, 56, 57, 97, 98, 99, 100, 101, 102]⟩) (some (.int .u8 ((c.toNat : Int) % 16))) (some (.int .u8 ((c.toNat : Int) % 16 + 1))) none).run Tryd.prog w = .ok (.string ⟨[figC (c.toNat % 16)].toArray⟩) w := by
    exact fun w => figs_cut (c.toNat % 16) (by omega) _ _ (by omega) (by omega) w
  have hand : bits .and .u8 (c.toNat : Int) 15 = (c.toNat : Int) % 16 := by
    have : ∀ X : Fin 256, bits .and .u8 ((X.val : Nat) : Int) 15 = ((X.val % 16 : Nat) : Int) := by decide +kernel
    have h := this ⟨c.toNat, hb⟩
    dsimp only at h
    omega
  have hE : Hid (((⟨#[92, 120]⟩ : ByteArray) ++ ⟨[figC (c.toNat / 16)].toArray⟩) ++ ⟨[figC (c.toNat % 16)].toArray⟩ = ⟨(escB c).toArray⟩) := Lib.hid (by
    apply ByteArray.ext
    simp [ByteArray.data_append, escB])
  go_enter Tryd.func56, Tryd.ntmps56
  go_upto_region 1 with fail
  refine wp_region_quiet_below (by kernel_rfl) (by kernel_rfl) ?_
  repeat (go_big_quiet_step (fail))
  refine wpQuiet_nil ?_
  intro _ hw'
  obtain ⟨⟨dq, osq⟩, hw''⟩ := hw'
  subst hw''
  have hB := below_regrown w dq osq
  clear hc1 hc2 hand
  go_wp2_with fail
  go_ret
  exact ⟨by rw [← hE.out]; rfl, hB⟩
end Go.Proofs.YtimmfcbpdnlfjaaDoor
