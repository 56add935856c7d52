/- Contract of Filter.May. -/
import Derived.Test.YtfebncpfhdgkpaaSieveC
import Derived.Test.YtfebncpfhdgkpaaPlainX
import Derived.Test.YtfebncpfhdgkpaaBytesA
namespace Go.Proofs.Ytfebncpfhdgkpaa
open Go.RowKit Go.Sort

def mayB (m : List Bool) (R : List Nat) : Bool := m.isEmpty || (places R m.length).all fun p => m.getD p false

theorem u8_and_1 : ∀ x : Nat, x < 256 → bits .and .u8 (x : Int) 1 = ((x % 2 : Nat) : Int) := by decide +kernel
theorem bit_test (m : List Bool) (p : Nat) : (bits .and .u8 (((nb m (p / 8) : Nat) : Int) / 2 ^ (p % 8)) 1 == 0) = !(m.getD p false) := by
  have h1 := nb_bit m p
  have h2 := nb_lt m (p / 8)
  have h3 : ((nb m (p / 8) : Nat) : Int) / 2 ^ (p % 8) = ((nb m (p / 8) / 2 ^ (p % 8) : Nat) : Int) := by simp
  rw [h3, u8_and_1 _ (Nat.lt_of_le_of_lt (Nat.div_le_self _ _) h2), h1]
  cases m.getD p false <;> rfl

set_option maxRecDepth 100000 in
set_option maxHeartbeats 4000000 in
theorem filter_May (A : Option Addr) (n c : Nat) (m : List Bool) (s : ByteArray) (w : World) (hr : Reads w w.heap.size 1 A n ((pk m).map vb)) (hm : m.length = 8 * n) (hn : n ≤ 65536) :
    Calls Try.prog 46 #[.agg #[.slice A n c], .string s] w fun e w' => e = .returned (.bool (mayB m (rest s 0))) ∧ Below w.heap.size w w' := by
  obtain ⟨R, hR⟩ : ∃ R, rest s 0 = R := ⟨_, rfl⟩
  by_cases hn0 : n = 0
  · have hmn : mayB m R = true := by
      have : m = [] := List.eq_nil_of_length_eq_zero (by omega)
      rw [this]; rfl
    rw [hR, hmn]
    have hn0' : ((n : Int) == 0) = true := by simp [hn0]
    clear hm hn0 hR hmn
    go_enter Try.func46, Try.ntmps46
    go_wp2_with fail
    go_ret
    exact ⟨rfl, (Below.refl _ _).alloc (Nat.le_refl _) _⟩
  have hn0' : ((n : Int) == 0) = false := by simp [hn0]
  have hpos : 0 < n := by omega
  have HC := Lib.hid (fun w => filter_places A n c s w hpos hn)
  rw [hR] at HC ⊢
  obtain ⟨b, off, rfl, hb, hc⟩ := hr.form hpos
  have hbit : ∀ j, place R (8 * n) j / 8 < n := fun j => by have := place_lt R (8 * n) j (by omega); omega
  have HM := Lib.hid hm
  have hcell : ∀ k, k < n → w.cell? ⟨b, off + k, none⟩ = some (.int .u8 ((nb m k : Nat) : Int)) := by
    intro k hk
    have h1 := hc k (vb (UInt8.ofNat (nb m k))) (by rw [List.getElem?_map, pk_get m k (by omega)]; rfl)
    rw [h1]
    unfold vb
    have := nb_lt m k
    rw [UInt8.toNat_ofNat', Nat.mod_eq_of_lt (by omega)]
  have HCell := Lib.hid hcell
  clear hc hr hm hn0 hR hcell
  go_enter Try.func46, Try.ntmps46
  go_wp2_with fail
  have BF := Blk.new w 61 #[.slice (some ⟨b, off, none⟩) n c]
  have hB : Below w.heap.size w (w.alloc (.cells #[.slice (some ⟨b, off, none⟩) n c] 61)) := (Below.refl _ _).alloc (Nat.le_refl _) _
  generalize w.alloc (.cells #[.slice (some ⟨b, off, none⟩) n c] 61) = W at *
  refine (HC.out W).mono ?_
  rintro e w1 ⟨rfl, b1⟩
  replace BF := BF.below b1 BF.lt
  replace hB := hB.trans (b1.mono hB.size)
  clear b1 HC
  have hp0 : arrP R (8 * n) 4 = #[.int .i64 ((place R (8 * n) 0 : Nat) : Int), .int .i64 ((place R (8 * n) 1 : Nat) : Int), .int .i64 ((place R (8 * n) 2 : Nat) : Int), .int .i64 ((place R (8 * n) 3 : Nat) : Int)] := rfl
  rw [hp0]
  clear hp0
  have hmay : mayB m R = (m.getD (place R (8 * n) 0) false && (m.getD (place R (8 * n) 1) false && (m.getD (place R (8 * n) 2) false && m.getD (place R (8 * n) 3) false))) := by
    unfold mayB
    have hne : m.isEmpty = false := by
      cases m with
      | nil => have := HM.out; simp at this; omega
      | cons a r => rfl
    rw [hne, HM.out]
    simp [places]
  have HMay := Lib.hid hmay
  have i0 := hbit 0
  have i1 := hbit 1
  have i2 := hbit 2
  have i3 := hbit 3
  have t0 := bit_test m (place R (8 * n) 0)
  have q0 := (hB.cell (p := ⟨b, off + place R (8 * n) 0 / 8, none⟩) hb).trans (HCell.out _ i0)
  have t1 := bit_test m (place R (8 * n) 1)
  have q1 := (hB.cell (p := ⟨b, off + place R (8 * n) 1 / 8, none⟩) hb).trans (HCell.out _ i1)
  have t2 := bit_test m (place R (8 * n) 2)
  have q2 := (hB.cell (p := ⟨b, off + place R (8 * n) 2 / 8, none⟩) hb).trans (HCell.out _ i2)
  have t3 := bit_test m (place R (8 * n) 3)
  have q3 := (hB.cell (p := ⟨b, off + place R (8 * n) 3 / 8, none⟩) hb).trans (HCell.out _ i3)
  generalize place R (8 * n) 0 = p0 at *
  generalize place R (8 * n) 1 = p1 at *
  generalize place R (8 * n) 2 = p2 at *
  generalize place R (8 * n) 3 = p3 at *
  have cf := BF.cell
  have T0 := Lib.hid t0
  have T1 := Lib.hid t1
  have T2 := Lib.hid t2
  have T3 := Lib.hid t3
  clear hmay hbit t0 t1 t2 t3
  have x0 : ∀ w, (Instr.index 111 (.agg #[.int .i64 (p0 : Int), .int .i64 (p1 : Int), .int .i64 (p2 : Int), .int .i64 (p3 : Int)]) (.int .i64 0)).run Try.prog w = .ok (.int .i64 (p0 : Int)) w := fun _ => by kernel_rfl
  have y0 : 0 ≤ (p0 : Int) / 8 := by omega
  have z0 : (p0 : Int) / 8 < n := by omega
  have u0 : ((p0 : Int) / 8).toNat = p0 / 8 := by omega
  have x1 : ∀ w, (Instr.index 111 (.agg #[.int .i64 (p0 : Int), .int .i64 (p1 : Int), .int .i64 (p2 : Int), .int .i64 (p3 : Int)]) (.int .i64 1)).run Try.prog w = .ok (.int .i64 (p1 : Int)) w := fun _ => by kernel_rfl
  have y1 : 0 ≤ (p1 : Int) / 8 := by omega
  have z1 : (p1 : Int) / 8 < n := by omega
  have u1 : ((p1 : Int) / 8).toNat = p1 / 8 := by omega
  have x2 : ∀ w, (Instr.index 111 (.agg #[.int .i64 (p0 : Int), .int .i64 (p1 : Int), .int .i64 (p2 : Int), .int .i64 (p3 : Int)]) (.int .i64 2)).run Try.prog w = .ok (.int .i64 (p2 : Int)) w := fun _ => by kernel_rfl
  have y2 : 0 ≤ (p2 : Int) / 8 := by omega
  have z2 : (p2 : Int) / 8 < n := by omega
  have u2 : ((p2 : Int) / 8).toNat = p2 / 8 := by omega
  have x3 : ∀ w, (Instr.index 111 (.agg #[.int .i64 (p0 : Int), .int .i64 (p1 : Int), .int .i64 (p2 : Int), .int .i64 (p3 : Int)]) (.int .i64 3)).run Try.prog w = .ok (.int .i64 (p3 : Int)) w := fun _ => by kernel_rfl
  have y3 : 0 ≤ (p3 : Int) / 8 := by omega
  have z3 : (p3 : Int) / 8 < n := by omega
  have u3 : ((p3 : Int) / 8).toNat = p3 / 8 := by omega
  go_wp2_with fail
  refine wp_loop_rounds 5 ?_
  rw [rounds_succ]
  cases hg0 : m.getD p0 false with
  | false =>
    have tt : (bits .and .u8 (((nb m (p0 / 8) : Nat) : Int) / 2 ^ (p0 % 8)) 1 == 0) = true := by rw [T0.out, hg0]; rfl
    have HE := Lib.hid (show mayB m R = false by rw [HMay.out, hg0]; rfl)
    clear hg0
    go_wp2_with fail
    go_ret
    exact ⟨by rw [HE.out]; rfl, hB⟩
  | true =>
    have tt0 : (bits .and .u8 (((nb m (p0 / 8) : Nat) : Int) / 2 ^ (p0 % 8)) 1 == 0) = false := by rw [T0.out, hg0]; rfl
    have G0 := Lib.hid hg0
    go_wp2_with fail
    rw [rounds_succ]
    cases hg1 : m.getD p1 false with
    | false =>
      have tt : (bits .and .u8 (((nb m (p1 / 8) : Nat) : Int) / 2 ^ (p1 % 8)) 1 == 0) = true := by rw [T1.out, hg1]; rfl
      have HE := Lib.hid (show mayB m R = false by rw [HMay.out, hg0, hg1]; rfl)
      clear hg0 hg1
      go_wp2_with fail
      go_ret
      exact ⟨by rw [HE.out]; rfl, hB⟩
    | true =>
      have tt1 : (bits .and .u8 (((nb m (p1 / 8) : Nat) : Int) / 2 ^ (p1 % 8)) 1 == 0) = false := by rw [T1.out, hg1]; rfl
      have G1 := Lib.hid hg1
      go_wp2_with fail
      rw [rounds_succ]
      cases hg2 : m.getD p2 false with
      | false =>
        have tt : (bits .and .u8 (((nb m (p2 / 8) : Nat) : Int) / 2 ^ (p2 % 8)) 1 == 0) = true := by rw [T2.out, hg2]; rfl
        have HE := Lib.hid (show mayB m R = false by rw [HMay.out, hg0, hg1, hg2]; rfl)
        clear hg0 hg1 hg2
        go_wp2_with fail
        go_ret
        exact ⟨by rw [HE.out]; rfl, hB⟩
      | true =>
        have tt2 : (bits .and .u8 (((nb m (p2 / 8) : Nat) : Int) / 2 ^ (p2 % 8)) 1 == 0) = false := by rw [T2.out, hg2]; rfl
        have G2 := Lib.hid hg2
        go_wp2_with fail
        rw [rounds_succ]
        cases hg3 : m.getD p3 false with
        | false =>
          have tt : (bits .and .u8 (((nb m (p3 / 8) : Nat) : Int) / 2 ^ (p3 % 8)) 1 == 0) = true := by rw [T3.out, hg3]; rfl
          have HE := Lib.hid (show mayB m R = false by rw [HMay.out, hg0, hg1, hg2, hg3]; rfl)
          clear hg0 hg1 hg2 hg3
          go_wp2_with fail
          go_ret
          exact ⟨by rw [HE.out]; rfl, hB⟩
        | true =>
          have tt3 : (bits .and .u8 (((nb m (p3 / 8) : Nat) : Int) / 2 ^ (p3 % 8)) 1 == 0) = false := by rw [T3.out, hg3]; rfl
          have G3 := Lib.hid hg3
          go_wp2_with fail
          rw [rounds_succ]
          have HE := Lib.hid (show mayB m R = true by rw [HMay.out, hg0, hg1, hg2, hg3]; rfl)
          clear hg0 hg1 hg2 hg3
          go_wp2_with fail
          go_ret
          exact ⟨by rw [HE.out]; rfl, hB⟩
end Go.Proofs.Ytfebncpfhdgkpaa
