/- Rows of mutations; contract of the law's Great (too many, or too long). -/
import Derived.Test.YtfkooohnaodjmaaMutC
namespace Go.Proofs.Ytfkooohnaodjmaa
open Go.RowKit Go.Sort

/-- A mutation as it lies: with its row of stamps. -/
structure MutS where
  m : Mut
  A : Option Addr
  n : Nat
  c : Nat
def mutL (e : MutS) : List Value := [.int .i64 e.m.tab, .int .i64 e.m.kind, .string e.m.key, .string e.m.en, .string e.m.val, .int .i64 e.m.exp, .int .i64 e.m.at_.1, .int .i64 e.m.at_.2.1, .int .i64 e.m.at_.2.2, .slice e.A e.n e.c]
theorem mutL_len (e : MutS) : (mutL e).length = 10 := rfl
def great1 (e : MutS) : Bool := decide (200 < e.m.key.size) || decide (200 < e.m.en.size) || decide (200 < e.m.val.size) || decide (50 < e.n)
theorem muts_n {w : World} {B n : Nat} {A : Option Addr} {L : List MutS} (h : Reads w B 10 A n (L.flatMap mutL)) : L.length = n := by
  have hl := h.1
  rw [flat_len mutL 10 mutL_len] at hl
  omega
theorem mut_at {w : World} {B n : Nat} {A : Option Addr} {L : List MutS} (h : Reads w B 10 A n (L.flatMap mutL)) {k : Nat} (hk : k < L.length) : ∃ b off, A = some ⟨b, off, none⟩ ∧ b < B ∧ ∀ i u, i < 10 → (mutL L[k])[i]? = some u → w.cell? ⟨b, off + k * 10 + i, none⟩ = some u := by
  have hl := muts_n h
  obtain ⟨b, off, hA, hb, hc⟩ := h.form3 (by omega) (by decide)
  refine ⟨b, off, hA, hb, fun i u hi hu => ?_⟩
  have := hc (k * 10 + i) u ((flat_get mutL 10 mutL_len L k i hk hi).trans hu)
  rw [← Nat.add_assoc] at this
  exact this

set_option maxRecDepth 100000 in
set_option maxHeartbeats 4000000 in
theorem law08_Great (A : Option Addr) (n c : Nat) (L : List MutS) (most : Int) (w : World) (hr : Reads w w.heap.size 10 A n (L.flatMap mutL)) (hn : n ≤ 1000000000) :
    Calls Try.prog 7 #[.slice A n c, .int .i64 most] w fun e w' => e = .returned (.bool (decide (most < (n : Int)) || L.any great1)) ∧ w = w' := by
  have HL := Lib.hid (muts_n hr)
  have HR := Lib.hid hr
  clear hr
  by_cases hm : most < (n : Int)
  · have hd : decide (most < (n : Int)) = true := by simp [hm]
    rw [hd, Bool.true_or]
    go_enter Try.func7, Try.ntmps7
    go_wp2_with fail
    go_ret
    exact ⟨rfl, rfl⟩
  have hd : decide (most < (n : Int)) = false := by simp; omega
  rw [hd, Bool.false_or]
  obtain ⟨R, hR⟩ : ∃ R, L.any great1 = R := ⟨_, rfl⟩
  have HT : Hid ((L.drop 0).any great1 = R) := Lib.hid (by rw [List.drop_zero]; exact hR)
  rw [hR]
  clear hR
  go_enter Try.func7, Try.ntmps7
  go_wp2_with fail
  clear hd hm
  go_loop [5] (fun v5 => ∃ k : Nat, v5 = .int .i64 k ∧ k ≤ n ∧ (L.drop k).any great1 = R) (fun v5 => n - (RowKit.intOf v5).toNat)
  case atStart => exact ⟨0, rfl, Nat.zero_le _, HT.out⟩
  case round =>
    obtain ⟨k, rfl, hk, hd⟩ := hrel
    have HD := Lib.hid hd
    clear hd
    by_cases hkn : k < n
    · have hkl : k < L.length := by have := HL.out; omega
      obtain ⟨b, off, hA, hb, hc⟩ := mut_at HR.out hkl
      subst hA
      have hst : (L.drop k).any great1 = (great1 L[k] || (L.drop (k + 1)).any great1) := by rw [List.drop_eq_getElem_cons hkl]; rfl
      obtain ⟨x, hx⟩ : ∃ x, L[k]'hkl = x := ⟨_, rfl⟩
      rw [hx] at hst hc
      have c2 : w.cell? ⟨b, off + k * 10 + 2, none⟩ = some (.string x.m.key) := hc 2 _ (by decide) rfl
      have c3 : w.cell? ⟨b, off + k * 10 + 3, none⟩ = some (.string x.m.en) := hc 3 _ (by decide) rfl
      have c4 : w.cell? ⟨b, off + k * 10 + 4, none⟩ = some (.string x.m.val) := hc 4 _ (by decide) rfl
      have c9 : w.cell? ⟨b, off + k * 10 + 9, none⟩ = some (.slice x.A x.n x.c) := hc 9 _ (by decide) rfl
      rw [HD.out] at hst
      have HST := Lib.hid hst
      clear hst hc hx
      by_cases g : great1 x = true
      · have HX : Hid (true = R) := Lib.hid (by rw [HST.out, g]; rfl)
        have hcase : (decide (200 < (x.m.key.size : Int)) = true) ∨ (decide (200 < (x.m.key.size : Int)) = false ∧ decide (200 < (x.m.en.size : Int)) = true) ∨ (decide (200 < (x.m.key.size : Int)) = false ∧ decide (200 < (x.m.en.size : Int)) = false ∧ decide (200 < (x.m.val.size : Int)) = true) ∨ (decide (200 < (x.m.key.size : Int)) = false ∧ decide (200 < (x.m.en.size : Int)) = false ∧ decide (200 < (x.m.val.size : Int)) = false ∧ decide (50 < (x.n : Int)) = true) := by
          unfold great1 at g
          simp only [Bool.or_eq_true, decide_eq_true_eq, decide_eq_false_iff_not] at g ⊢
          omega
        rcases hcase with d1 | ⟨d1, d2⟩ | ⟨d1, d2, d3⟩ | ⟨d1, d2, d3, d4⟩
        all_goals
          clear g
          go_wp2_with fail
          go_ret
          exact ⟨by rw [← HX.out]; rfl, rfl⟩
      · have hg0 := g
        unfold great1 at hg0
        simp at hg0
        have HX : Hid ((L.drop (k + 1)).any great1 = R) := Lib.hid (by rw [HST.out]; simp [g])
        have d1 : decide (200 < (x.m.key.size : Int)) = false := by simp; omega
        have d2 : decide (200 < (x.m.en.size : Int)) = false := by simp; omega
        have d3 : decide (200 < (x.m.val.size : Int)) = false := by simp; omega
        have d4 : decide (50 < (x.n : Int)) = false := by simp; omega
        clear g hg0
        go_wp2_with fail
        go_round
        case rel => exact ⟨k + 1, by go_num, by omega, HX.out⟩
        case measure => simp [RowKit.intOf]; omega
    · have HX : Hid (false = R) := Lib.hid (by rw [← HD.out, List.drop_of_length_le (by rw [HL.out]; omega)]; rfl)
      go_wp2_with fail
      go_ret
      exact ⟨by rw [← HX.out]; rfl, rfl⟩
end Go.Proofs.Ytfkooohnaodjmaa
