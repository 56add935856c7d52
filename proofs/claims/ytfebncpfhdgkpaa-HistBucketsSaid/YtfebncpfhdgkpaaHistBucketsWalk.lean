/- The walk of the law HistBuckets: it returns true, and nothing that was there ahead of the call has turned. -/
import Derived.Test.YtfebncpfhdgkpaaHistE
namespace Go.Proofs.Ytfebncpfhdgkpaa
open Go.RowKit Go.Sort

theorem bk_char : ∀ (f N i : Nat), (∀ j, i ≤ j → j < bk f N i → 2 ^ j ≤ N) ∧ (bk f N i < i + f → N < 2 ^ bk f N i) ∧ i ≤ bk f N i
  | 0, N, i => ⟨fun j h1 h2 => absurd h2 (by unfold bk; omega), fun h => absurd h (by unfold bk; omega), Nat.le_refl _⟩
  | f + 1, N, i => by
    unfold bk
    by_cases h : N < 2 ^ i
    · rw [if_pos h]
      exact ⟨fun j h1 h2 => by omega, fun _ => h, Nat.le_refl _⟩
    · rw [if_neg h]
      obtain ⟨h1, h2, h3⟩ := bk_char f N (i + 1)
      refine ⟨fun j hj hj2 => ?_, fun hx => h2 (by omega), by omega⟩
      by_cases he : j = i
      · subst he; omega
      · exact h1 j (by omega) hj2
theorem bkt_char (n : Int) : (∀ j, j < bkt n → 2 ^ j ≤ n.toNat) ∧ (bkt n < 23 → n.toNat < 2 ^ bkt n) ∧ bkt n ≤ 23 := by
  obtain ⟨h1, h2, _⟩ := bk_char 23 n.toNat 0
  have := bk_le 23 n.toNat 0
  unfold bkt
  exact ⟨fun j hj => h1 j (Nat.zero_le _) hj, fun h => h2 (by omega), by omega⟩
theorem bkt_of (n : Int) (i : Nat) (h0 : 0 < i → 2 ^ (i - 1) ≤ n.toNat) (h1 : i < 23 → n.toNat < 2 ^ i) (hi : i ≤ 23) : bkt n = i := by
  obtain ⟨c1, c2, c3⟩ := bkt_char n
  rcases Nat.lt_trichotomy (bkt n) i with h | h | h
  · have h4 := c2 (by omega)
    have h5 := h0 (by omega)
    have h6 : 2 ^ bkt n ≤ 2 ^ (i - 1) := Nat.pow_le_pow_right (by decide) (by omega)
    omega
  · exact h
  · have h4 := c1 i h
    have h5 := h1 (by omega)
    omega

theorem bd_all : ∀ k : Nat, k < 24 → bkt (bdLo k) = k ∧ bkt (bdHi k) = k ∧ (k < 23 → bkt (bdHi k + 1) = k + 1) ∧ (0 < k → bkt (bdLo k - 1) = k - 1) ∧ 0 ≤ bdLo k ∧ bdLo k ≤ 4194304 ∧ 0 ≤ bdHi k ∧ bdHi k ≤ 1099511627776 := by decide +kernel
theorem bd_in (n : Int) (h0 : 0 ≤ n) (h1 : n ≤ 1099511627776) : bdLo (bkt n : Nat) ≤ n ∧ n ≤ bdHi (bkt n : Nat) := by
  obtain ⟨c1, c2, c3⟩ := bkt_char n
  generalize bkt n = b at *
  have hx : ¬ ((b : Int) < 0 ∨ 24 ≤ (b : Int)) := by omega
  unfold bdLo bdHi
  simp only [if_neg hx]
  by_cases hb : b = 0
  · subst hb
    have := c2 (by omega)
    simp at this ⊢
    omega
  · have hb' : ¬ (b : Int) = 0 := by omega
    simp only [if_neg hb']
    have e : ((b : Int)).toNat = b := by omega
    rw [e]
    have l1 := c1 (b - 1) (by omega)
    have e1 : ((2 : Int) ^ (b - 1)) = ((2 ^ (b - 1) : Nat) : Int) := by simp
    have e2 : ((2 : Int) ^ b) = ((2 ^ b : Nat) : Int) := by simp
    rw [e1, e2]
    by_cases h23 : (b : Int) = 23
    · rw [if_pos h23]; omega
    · rw [if_neg h23]
      have := c2 (by omega)
      omega

set_option maxRecDepth 100000 in
set_option maxHeartbeats 4000000 in
theorem hist_buckets_walk (w : World) (n : Int) (_ : (Lit.int .i64 n).wf = true) (i : Int) (_ : (Lit.int .i64 i).wf = true) :
    Calls Try.prog 3 #[.int .i64 n, .int .i64 i] w fun e w' => e = .returned (.bool true) ∧ Below w.heap.size w w' := by
  go_enter Try.func3, Try.ntmps3
  go_wp2_with (go_at_call 13; refine (hist_Bucket _ _).mono ?_; rintro e w' ⟨rfl, rfl⟩)
  refine (hist_Bounds _ _).mono ?_
  rintro e w1 ⟨rfl, hB⟩
  have hbl := bkt_lt n
  have HIN := Lib.hid (bd_in n)
  have hokb : bdOk (bkt n : Nat) = true := by unfold bdOk; simp; omega
  have HB2 := Lib.hid (fun w => hist_Bounds (bkt n : Nat) w)
  have HB1 := Lib.hid (fun w => law44_bucket n w)
  simp only [hokb] at HB2
  obtain ⟨b, hb⟩ : ∃ b, bkt n = b := ⟨_, rfl⟩
  rw [hb] at hbl hokb
  simp only [hb] at HIN HB2 HB1
  rw [hb]
  clear hb hokb
  have hcase : (bdOk i = false ∧ bdLo i = 0 ∧ bdHi i = 0 ∧ (i < 0 ∨ 24 ≤ i)) ∨ ∃ k : Nat, i = k ∧ k < 24 := by
    by_cases h : i < 0 ∨ 24 ≤ i
    · left
      exact ⟨by unfold bdOk; simp; omega, by unfold bdLo; rw [if_pos h], by unfold bdHi; rw [if_pos h], h⟩
    · exact .inr ⟨i.toNat, by omega, by omega⟩
  rcases hcase with ⟨h1, h2, h3, h4⟩ | ⟨k, rfl, hk⟩
  · rw [h1, h2, h3]
    rcases h4 with h4 | h4
    all_goals
      go_wp2_with (go_at_call 15; refine (HB1.out _).mono ?_; rintro e w' ⟨rfl, rfl⟩)
      refine (HB2.out _).mono ?_
      rintro e w2 ⟨rfl, b2⟩
      replace hB := hB.trans (b2.mono hB.size)
      have HAl := Lib.hid (alive44 w2)
      by_cases hn0 : n < 0
      · go_wp2_with fail
        refine HAl.out.mono ?_
        rintro e w3 ⟨rfl, b3⟩
        go_wp2_with fail
        go_ret
        exact ⟨rfl, hB.trans (b3.mono hB.size)⟩
      by_cases hn1 : 1099511627776 < n
      · go_wp2_with fail
        refine HAl.out.mono ?_
        rintro e w3 ⟨rfl, b3⟩
        go_wp2_with fail
        go_ret
        exact ⟨rfl, hB.trans (b3.mono hB.size)⟩
      obtain ⟨hl1, hl2⟩ := HIN.out (by omega) (by omega)
      generalize bdLo (b : Int) = lo' at *
      generalize bdHi (b : Int) = hi' at *
      clear HIN HB2 HB1
      go_wp2_with fail
      refine HAl.out.mono ?_
      rintro e w3 ⟨rfl, b3⟩
      go_wp2_with fail
      go_ret
      exact ⟨rfl, hB.trans (b3.mono hB.size)⟩
  · obtain ⟨c1, c2, c3, c4, c5, c6, c7, c8⟩ := bd_all k hk
    have hok : bdOk (k : Int) = true := by unfold bdOk; simp; omega
    rw [hok]
    clear hok
    generalize bdLo (k : Int) = lo at *
    generalize bdHi (k : Int) = hi at *
    have HBk := Lib.hid (fun n w => law44_bucket n w)
    have w1' : IntKind.i64.wrap (hi + 1) = hi + 1 := by rw [IntKind.wrap_i64]; omega
    have w2' : IntKind.i64.wrap (lo - 1) = lo - 1 := by rw [IntKind.wrap_i64]; omega
    by_cases h0 : k = 0
    · have c3' := c3 (by omega)
      subst h0
      clear c3 c4
      go_wp2_with (go_at_call 15; first | ((with_reducible refine (HB1.out _).mono ?_); rintro e w' ⟨rfl, rfl⟩) | (refine (HBk.out _ _).mono ?_; rintro e w' ⟨rfl, rfl⟩))
      refine (HB2.out _).mono ?_
      rintro e w2 ⟨rfl, b2⟩
      replace hB := hB.trans (b2.mono hB.size)
      have HAl := Lib.hid (alive44 w2)
      by_cases hn0 : n < 0
      · go_wp2_with fail
        refine HAl.out.mono ?_
        rintro e w3 ⟨rfl, b3⟩
        go_wp2_with fail
        go_ret
        exact ⟨rfl, hB.trans (b3.mono hB.size)⟩
      by_cases hn1 : 1099511627776 < n
      · go_wp2_with fail
        refine HAl.out.mono ?_
        rintro e w3 ⟨rfl, b3⟩
        go_wp2_with fail
        go_ret
        exact ⟨rfl, hB.trans (b3.mono hB.size)⟩
      obtain ⟨hl1, hl2⟩ := HIN.out (by omega) (by omega)
      generalize bdLo (b : Int) = lo' at *
      generalize bdHi (b : Int) = hi' at *
      clear HIN HB2 HB1
      go_wp2_with fail
      refine HAl.out.mono ?_
      rintro e w3 ⟨rfl, b3⟩
      go_wp2_with fail
      go_ret
      exact ⟨rfl, hB.trans (b3.mono hB.size)⟩
    by_cases h23 : k = 23
    · have c4' := c4 (by omega)
      subst h23
      clear c3 c4
      go_wp2_with (go_at_call 15; first | ((with_reducible refine (HB1.out _).mono ?_); rintro e w' ⟨rfl, rfl⟩) | (refine (HBk.out _ _).mono ?_; rintro e w' ⟨rfl, rfl⟩))
      refine (HB2.out _).mono ?_
      rintro e w2 ⟨rfl, b2⟩
      replace hB := hB.trans (b2.mono hB.size)
      have HAl := Lib.hid (alive44 w2)
      by_cases hn0 : n < 0
      · go_wp2_with fail
        refine HAl.out.mono ?_
        rintro e w3 ⟨rfl, b3⟩
        go_wp2_with fail
        go_ret
        exact ⟨rfl, hB.trans (b3.mono hB.size)⟩
      by_cases hn1 : 1099511627776 < n
      · go_wp2_with fail
        refine HAl.out.mono ?_
        rintro e w3 ⟨rfl, b3⟩
        go_wp2_with fail
        go_ret
        exact ⟨rfl, hB.trans (b3.mono hB.size)⟩
      obtain ⟨hl1, hl2⟩ := HIN.out (by omega) (by omega)
      generalize bdLo (b : Int) = lo' at *
      generalize bdHi (b : Int) = hi' at *
      clear HIN HB2 HB1
      go_wp2_with fail
      refine HAl.out.mono ?_
      rintro e w3 ⟨rfl, b3⟩
      go_wp2_with fail
      go_ret
      exact ⟨rfl, hB.trans (b3.mono hB.size)⟩
    have c3' := c3 (by omega)
    have c4' := c4 (by omega)
    have c5' : (((k - 1 : Nat)) : Int) = (k : Int) - 1 := by omega
    have hk23 : (k : Int) < 23 := by omega
    have hk0 : 0 < (k : Int) := by omega
    clear c3 c4
    go_wp2_with (go_at_call 15; first | ((with_reducible refine (HB1.out _).mono ?_); rintro e w' ⟨rfl, rfl⟩) | (refine (HBk.out _ _).mono ?_; rintro e w' ⟨rfl, rfl⟩))
    refine (HB2.out _).mono ?_
    rintro e w2 ⟨rfl, b2⟩
    replace hB := hB.trans (b2.mono hB.size)
    have HAl := Lib.hid (alive44 w2)
    by_cases hn0 : n < 0
    · go_wp2_with fail
      refine HAl.out.mono ?_
      rintro e w3 ⟨rfl, b3⟩
      go_wp2_with fail
      go_ret
      exact ⟨rfl, hB.trans (b3.mono hB.size)⟩
    by_cases hn1 : 1099511627776 < n
    · go_wp2_with fail
      refine HAl.out.mono ?_
      rintro e w3 ⟨rfl, b3⟩
      go_wp2_with fail
      go_ret
      exact ⟨rfl, hB.trans (b3.mono hB.size)⟩
    obtain ⟨hl1, hl2⟩ := HIN.out (by omega) (by omega)
    generalize bdLo (b : Int) = lo' at *
    generalize bdHi (b : Int) = hi' at *
    clear HIN HB2 HB1
    go_wp2_with fail
    refine HAl.out.mono ?_
    rintro e w3 ⟨rfl, b3⟩
    go_wp2_with fail
    go_ret
    exact ⟨rfl, hB.trans (b3.mono hB.size)⟩
end Go.Proofs.Ytfebncpfhdgkpaa
