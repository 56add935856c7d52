/- The walk of the law GapsReads: it returns true, and nothing that was there ahead of the call has turned. -/
import Derived.Test.YtfebncpfhdgkpaaGapsG
import Derived.Test.YtfebncpfhdgkpaaGapsH
import Derived.Test.YtfebncpfhdgkpaaGapsD
namespace Go.Proofs.Ytfebncpfhdgkpaa
open Go.RowKit Go.Sort

/-- The first bytes of a slice. -/
theorem Reads.take {w : World} {B n : Nat} {A : Option Addr} {L : List UInt8} (h : Reads w B 1 A n (L.map vb)) (k : Nat) (hk : k ≤ n) : Reads w B 1 A k ((L.take k).map vb) := by
  have hl := h.len
  refine ⟨by simp; omega, fun h0 => ?_⟩
  obtain ⟨ad, hA, hb, hc⟩ := h.2 (by omega)
  refine ⟨ad, hA, hb, fun j u hu => hc j u ?_⟩
  rw [List.map_take] at hu
  have hj := (List.getElem?_eq_some_iff.1 hu).1
  rw [List.length_take] at hj
  rw [List.getElem?_take_of_lt (by omega)] at hu
  exact hu

theorem gput_len (row : List Int) (h : row.length ≤ 4096) (hR : Rise row) : (gput row).length ≤ 40000 := by
  have h1 := wput_length row.length (by omega)
  have h2 := gl_length none row (by simp) (fun x hx => by
    obtain ⟨i, hi⟩ := List.getElem?_of_mem hx
    have := hR i x hi
    omega)
  unfold gput
  rw [List.length_append]
  omega

set_option maxRecDepth 100000 in
set_option maxHeartbeats 2000000 in
theorem gaps_reads_walk (w : World) (A : Option Addr) (n c : Nat) (l : List UInt8) (hnc : n ≤ c) (_ : c ≤ maxLen) (hll : l.length = n) (hr : Reads w w.heap.size 1 A n (l.map vb)) (hA : A = none → c = 0) :
    Calls Try.prog 9 #[.slice A n c] w fun e w' => e = .returned (.bool true) ∧ Below w.heap.size w w' := by
  by_cases hbig : 500 < n
  · have hd : decide (500 < (n : Int)) = true := by simp; omega
    clear hA hll
    go_enter Try.func9, Try.ntmps9
    go_wp2_with fail
    go_ret
    exact ⟨rfl, Below.refl _ _⟩
  have hd : decide (500 < (n : Int)) = false := by simp; omega
  have hC := Lib.hid (bytes_Clone A n c l w hr hA (by omega))
  have HR := Lib.hid hr
  have HL := Lib.hid hll
  have HA := Lib.hid hA
  clear hr hll hA
  go_enter Try.func9, Try.ntmps9
  go_wp2_with fail
  refine hC.out.mono ?_
  rintro e w1 ⟨v1, rfl, O1, hB⟩
  clear hC
  obtain ⟨A1, c1, rfl, hc1, R1⟩ := O1.reads
  clear O1
  rw [HL.out] at R1 hc1 ⊢
  go_wp2_with fail
  refine (wire_New A1 n c1 w1).mono ?_
  rintro e w2 ⟨rfl, rfl⟩
  have RD : Rd (w1.alloc (.cells #[.slice A1 n c1, .int .i64 0, .int .i64 0] 114)) w1.heap.size A1 n c1 l 0 0 := ⟨Blk.new _ _ _, (R1.alloc (Nat.le_refl _) _), Nat.zero_le _, by omega, hc1⟩
  have hw1 := hB.size
  replace hB := hB.alloc hB.size (.cells #[.slice A1 n c1, .int .i64 0, .int .i64 0] 114)
  clear R1
  have hg := hB.size
  generalize w1.alloc (.cells #[.slice A1 n c1, .int .i64 0, .int .i64 0] 114) = W at *
  generalize w1.heap.size = g at *
  have hG := Lib.hid (gaps_Get W g A1 n c1 l 0 0 RD)
  clear RD
  go_wp2_with fail
  refine hG.out.mono ?_
  rintro e w3 ⟨v3, row, k', why', rfl, O3, R3, G3, hyes, hno⟩
  replace hB : Below w.heap.size w w3 := Below.grown hB G3 hB.size (fun q hq => by injection hq with hq; omega)
  clear hG G3
  obtain ⟨A3, c3, rfl, _, _, RD3⟩ := O3.reads
  have hk' := R3.kn
  rw [List.drop_zero] at hyes hno
  by_cases hw : why' = 0
  · subst hw
    obtain ⟨hget, _⟩ := hyes rfl
    rw [Nat.sub_zero] at hget
    obtain ⟨_, hrl, hrise, htake⟩ := rGet_take hget
    have H1 := Lib.hid hget
    have H2 := Lib.hid hrise
    have H3 := Lib.hid htake
    clear hget hyes hno hrise htake
    go_wp2_with fail
    refine (reader_Why _ g _ n c1 l _ 0 R3).mono ?_
    rintro e w4 ⟨rfl, rfl⟩
    go_wp2_with fail
    refine (law47_right_yes A3 row.length c3 row w3 _ RD3 hrl H2.out).mono ?_
    rintro e w4 ⟨rfl, b4⟩
    go_wp2_with fail
    refine (law47_bytes A3 row.length c3 row w4 ((RD3.below b4).more b4.size) hrl H2.out).mono ?_
    rintro e w5 ⟨v5, rfl, O5, b5⟩
    have hB5 := hB.trans ((bthen b4 b5).mono hB.size)
    have R5 := R3.below (bthen b4 b5)
    obtain ⟨A5, c5, rfl, _, RD5⟩ := O5.reads
    clear O5 b4 b5 R3 hB
    go_wp2_with fail
    refine (reader_At _ g _ n c1 l _ 0 R5).mono ?_
    rintro e w6 ⟨rfl, rfl⟩
    go_wp2_with fail
    have hE := bytes_Equal A5 A _ k' c5 c (gput row) (l.take k') w5 RD5 (((HR.out.take k' hk').below hB5).more hB5.size) (by have := gput_len row hrl H2.out; omega)
    rw [H3.out] at hE
    have HE := Lib.hid hE
    clear hE
    refine HE.out.mono ?_
    rintro e w7 ⟨rfl, b7⟩
    rw [show decide (gput row = gput row) = true by simp]
    go_wp2_with fail
    refine (alive47 _).mono ?_
    rintro e w8 ⟨rfl, b8⟩
    go_wp2_with fail
    go_ret
    exact ⟨rfl, hB5.trans ((bthen b7 b8).mono hB5.size)⟩
  · have hwb : (why' != 0) = true := by simp [hw]
    obtain ⟨rfl, _⟩ := hno hw
    clear hw hyes hno
    go_wp2_with fail
    refine (reader_Why _ g _ n c1 l _ why' R3).mono ?_
    rintro e w4 ⟨rfl, rfl⟩
    go_wp2_with fail
    refine (alive47 _).mono ?_
    rintro e w5 ⟨rfl, b5⟩
    go_wp2_with fail
    go_ret
    exact ⟨rfl, hB.trans (b5.mono hB.size)⟩
end Go.Proofs.Ytfebncpfhdgkpaa
