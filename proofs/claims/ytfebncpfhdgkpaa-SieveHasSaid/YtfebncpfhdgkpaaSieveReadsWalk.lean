/- The walk of the law SieveReads: it returns true, and nothing that was there ahead of the call has turned. -/
import Derived.Test.YtfebncpfhdgkpaaSieveJ
import Derived.Test.YtfebncpfhdgkpaaSieveK
import Derived.Test.YtfebncpfhdgkpaaSieveL
import Derived.Test.YtfebncpfhdgkpaaSieveM
import Derived.Test.YtfebncpfhdgkpaaRefRead
namespace Go.Proofs.Ytfebncpfhdgkpaa
open Go.RowKit Go.Sort

theorem rText_len (l : List UInt8) (most why : Int) : (rText l most why).1.length ≤ l.length := by
  unfold rText
  split
  · simp
  · split
    · simp
    · split
      · simp
      · simp only [List.length_take, List.length_drop]; omega
theorem bytes_new0 (w : World) (s : List UInt8) (cap : Nat) (fr : Nat × Nat) :
    Reads (w.alloc (.cells (bytesRow ⟨s.toArray⟩ cap) 5 fr)).drew (w.alloc (.cells (bytesRow ⟨s.toArray⟩ cap) 5 fr)).drew.heap.size 1 (some ⟨w.heap.size, 0, none⟩) s.length (s.map vb) := by
  have h1 : (w.alloc (.cells (bytesRow ⟨s.toArray⟩ cap) 5 fr)).drew.heap[w.heap.size]? = some (.cells (bytesRow ⟨s.toArray⟩ cap) 5 fr) := heap_alloc_new w _
  generalize (w.alloc (.cells (bytesRow ⟨s.toArray⟩ cap) 5 fr)).drew = W at h1 ⊢
  have hlt : w.heap.size < W.heap.size := by
    rcases Nat.lt_or_ge w.heap.size W.heap.size with h | h
    · exact h
    · rw [Array.getElem?_eq_none h] at h1; cases h1
  refine ⟨by simp, fun _ => ⟨_, rfl, hlt, ?_⟩⟩
  intro j u hu
  obtain ⟨z, hz1, hz2⟩ := (List.getElem?_map (f := vb) (l := s) (i := j)) ▸ hu |> Option.map_eq_some_iff.1
  obtain ⟨hj, hz⟩ := List.getElem?_eq_some_iff.1 hz1
  rw [add_lit, Nat.zero_add, cell_of_row _ _ j _ _ _ h1, bytesRow_at _ _ j (by simpa using hj), ← hz2, ← hz]
  simp [vb]

set_option maxRecDepth 100000 in
set_option maxHeartbeats 4000000 in
theorem sieve_reads_walk (w : World) (A : Option Addr) (n c : Nat) (l : List UInt8) (hnc : n ≤ c) (_ : c ≤ maxLen) (hll : l.length = n) (hr : Reads w w.heap.size 1 A n (l.map vb)) (hA : A = none → c = 0) (s : ByteArray) (_ : s.size ≤ maxLen) :
    Calls Try.prog 12 #[.slice A n c, .string s] w fun e w' => e = .returned (.bool true) ∧ Below w.heap.size w w' := by
  have HA := Lib.hid hA
  have HL := Lib.hid hll
  have HR := Lib.hid hr
  clear hA hll hr
  by_cases hbig : 500 < n
  · go_enter Try.func12, Try.ntmps12
    go_wp2_with fail
    go_ret
    exact ⟨rfl, Below.refl _ _⟩
  by_cases hbs : 500 < s.size
  · go_enter Try.func12, Try.ntmps12
    go_wp2_with fail
    go_ret
    exact ⟨rfl, Below.refl _ _⟩
  have hC := Lib.hid (bytes_Clone A n c l w HR.out HA.out (by omega))
  go_enter Try.func12, Try.ntmps12
  go_wp2_with fail
  refine hC.out.mono ?_
  rintro e w1 ⟨v1, rfl, O1, hB⟩
  clear hC
  obtain ⟨A1, c1, rfl, hc1, R1⟩ := O1.reads
  clear O1
  rw [HL.out] at R1 hc1 ⊢
  go_wp2_with fail
  refine (wire_New A1 n c1 w1).mono ?_
  rintro e w2 ⟨rfl, rfl⟩
  have RD : Rd (w1.alloc (.cells #[.slice A1 n c1, .int .i64 0, .int .i64 0] 114)) w1.heap.size A1 n c1 l 0 0 := ⟨Blk.new _ _ _, (R1.alloc (Nat.le_refl _) _), Nat.zero_le _, by omega, hc1⟩
  have hw1 := hB.size
  replace hB := hB.alloc hB.size (.cells #[.slice A1 n c1, .int .i64 0, .int .i64 0] 114)
  clear R1
  have hg := hB.size
  generalize w1.alloc (.cells #[.slice A1 n c1, .int .i64 0, .int .i64 0] 114) = W at *
  generalize w1.heap.size = g at *
  have hG := sieve_Get W g A1 n c1 l 0 0 RD
  rw [List.drop_zero] at hG
  have hRd := fun w B => ref03_Read A n c l w B 65536
  have hbad := rText_bad l 65536 0
  have hlen := rText_len l 65536 0
  rw [HL.out] at hlen
  obtain ⟨s0, m, e0, hq⟩ : ∃ s0 m e0, rText l 65536 0 = (s0, m, e0) := ⟨_, _, _, rfl⟩
  rw [hq] at hG hbad hlen
  simp only [hq] at hRd hG hbad hlen
  have HG := Lib.hid hG
  have HRD := Lib.hid hRd
  have HBD := Lib.hid hbad
  clear hG hRd hbad hq RD
  go_wp2_with fail
  refine HG.out.mono ?_
  clear HG
  rintro e w3 ⟨B, m', rfl, RB, R3, G3⟩
  replace hB : Below w.heap.size w w3 := Below.grown hB G3 hB.size (fun q hq => by injection hq with hq; omega)
  clear G3
  obtain ⟨n', hn'⟩ : ∃ n', s0.length = n' := ⟨_, rfl⟩
  rw [hn'] at RB hlen ⊢
  have BF := Blk.new w3 61 #[.slice B n' m']
  have hw3 := hB.size
  replace R3 := R3.alloc (.cells #[.slice B n' m'] 61)
  have RB2 := RB.alloc (Nat.le_refl _) (.cells #[.slice B n' m'] 61)
  replace hB := hB.alloc hB.size (.cells #[.slice B n' m'] 61)
  clear RB
  go_wp2_with fail
  have hw4 : w3.heap.size ≤ (w3.alloc (.cells #[.slice B n' m'] 61)).heap.size := by simp
  generalize w3.alloc (.cells #[.slice B n' m'] 61) = w4 at *
  replace RB2 := RB2.more hw4
  refine (HRD.out w4 w.heap.size (HR.out.below hB) hnc (by omega)).mono ?_
  clear HRD
  rintro e w5 ⟨rfl, rfl⟩
  have HN := Lib.hid hn'
  clear hn'
  by_cases he : e0 = 0
  · subst he
    clear HBD
    have hcv := run_bytes_of_string (P := Try.prog) w4 9 46 5 ⟨s0.toArray⟩ Try.underlying9 Try.underlying46 Try.underlying5
    have hsz : ByteArray.size ⟨s0.toArray⟩ = n' := by show s0.toArray.size = n'; simpa using HN.out
    rw [hsz] at hcv
    generalize grownCap w4 n' 0 5 = cap at *
    have RS := bytes_new0 w4 s0 cap ((bytesRow ⟨s0.toArray⟩ cap).size, (bytesRow ⟨s0.toArray⟩ cap).size + 1)
    have b5 : Below w4.heap.size w4 ((w4.alloc (.cells (bytesRow ⟨s0.toArray⟩ cap) 5 ((bytesRow ⟨s0.toArray⟩ cap).size, (bytesRow ⟨s0.toArray⟩ cap).size + 1))).drew) := below_drewN ((Below.refl w4.heap.size w4).alloc (Nat.le_refl _) _) 1
    rw [HN.out] at RS
    go_wp2_with fail
    generalize (w4.alloc (.cells (bytesRow ⟨s0.toArray⟩ cap) 5 ((bytesRow ⟨s0.toArray⟩ cap).size, (bytesRow ⟨s0.toArray⟩ cap).size + 1))).drew = w5 at *
    replace BF := BF.below b5 BF.lt
    replace R3 := R3.below b5
    replace hB := hB.trans (b5.mono hB.size)
    replace RB2 := (RB2.below b5).more b5.size
    clear hcv b5
    have HBi := Lib.hid (ref14_Bits (some ⟨w4.heap.size, 0, none⟩) n' cap s0 w5 RS (by omega))
    clear RS
    refine HBi.out.mono ?_
    clear HBi
    rintro e w6 ⟨v6, rfl, O6, b6⟩
    replace BF := BF.below b6 BF.lt
    replace R3 := R3.below b6
    replace hB := hB.trans (b6.mono hB.size)
    replace RB2 := (RB2.below b6).more b6.size
    obtain ⟨A6, c6, rfl, _, R6⟩ := O6.reads
    clear O6 b6
    obtain ⟨mb, hmb⟩ : ∃ mb, ub s0 = mb := ⟨_, rfl⟩
    have hpk : pk mb = s0 := by rw [← hmb, pk_ub]
    have hml : mb.length = 8 * n' := by rw [← hmb, ub_len, HN.out]
    rw [hmb] at R6 ⊢
    rw [hml] at R6 ⊢
    have RBm : Reads w6 w6.heap.size 1 B n' ((pk mb).map vb) := by rw [hpk]; exact RB2
    have HML := Lib.hid hml
    clear hmb hpk hml RB2
    go_wp2_with fail
    refine (reader_Why _ g _ n c1 l _ 0 R3).mono ?_
    rintro e w7 ⟨rfl, rfl⟩
    go_wp2_with fail
    refine (reader_At _ g _ n c1 l _ 0 R3).mono ?_
    rintro e w7 ⟨rfl, rfl⟩
    clear R3
    have cf := BF.cell
    have HI := Lib.hid (law14_is B n' m' A6 (8 * n') c6 mb w6 RBm R6 rfl (by omega))
    go_wp2_with fail
    refine HI.out.mono ?_
    clear HI cf
    rintro e w7 ⟨rfl, b7⟩
    replace BF := BF.below b7 BF.lt
    replace hB := hB.trans (b7.mono hB.size)
    replace RBm := (RBm.below b7).more b7.size
    replace R6 := (R6.below b7).more b7.size
    clear b7
    have cf := BF.cell
    have HM := Lib.hid (filter_May B n' m' mb s w7 RBm HML.out (by omega))
    go_wp2_with fail
    refine HM.out.mono ?_
    clear HM cf
    rintro e w8 ⟨rfl, b8⟩
    replace hB := hB.trans (b8.mono hB.size)
    replace R6 := (R6.below b8).more b8.size
    clear b8
    have HM := Lib.hid (ref14_May A6 (8 * n') c6 mb s w8 R6 (by omega) (by omega))
    clear R6 RBm BF
    generalize mayB mb (rest s 0) = y at *
    go_wp2_with fail
    refine HM.out.mono ?_
    clear HM
    rintro e w9 ⟨rfl, b9⟩
    replace hB := hB.trans (b9.mono hB.size)
    clear b9
    have HAl := Lib.hid (law14_alive w9)
    go_wp2_with fail
    refine HAl.out.mono ?_
    clear HAl
    rintro e w10 ⟨rfl, b10⟩
    replace hB := hB.trans (b10.mono hB.size)
    go_wp2_with fail
    go_ret
    exact ⟨rfl, hB⟩
  · have hs := HBD.out he
    subst hs
    have hn0 : n' = 0 := by have := HN.out; simpa using this.symm
    subst hn0
    have hed : (e0 != 0) = true := by simp [he]
    clear HBD he HN
    go_wp2_with fail
    refine (reader_Why _ g _ n c1 l _ e0 R3).mono ?_
    rintro e w7 ⟨rfl, rfl⟩
    have cf := BF.cell
    go_wp2_with fail
    refine (filter_Size B 0 m' w4 (by omega)).mono ?_
    rintro e w5 ⟨rfl, b5⟩
    replace hB := hB.trans (b5.mono hB.size)
    have HAl := Lib.hid (law14_alive w5)
    go_wp2_with fail
    refine HAl.out.mono ?_
    clear HAl
    rintro e w10 ⟨rfl, b10⟩
    replace hB := hB.trans (b10.mono hB.size)
    go_wp2_with fail
    go_ret
    exact ⟨rfl, hB⟩
end Go.Proofs.Ytfebncpfhdgkpaa
