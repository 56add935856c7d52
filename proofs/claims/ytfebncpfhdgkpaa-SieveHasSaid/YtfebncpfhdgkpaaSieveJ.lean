/- Contracts of sieve.Put and of the law's own 'is'. -/
import Derived.Test.YtfebncpfhdgkpaaSieveH
import Derived.Test.YtfebncpfhdgkpaaSieveM
import Derived.Test.YtfebncpfhdgkpaaWireC
import Derived.Test.YtfebncpfhdgkpaaOwnG
namespace Go.Proofs.Ytfebncpfhdgkpaa
open Go.RowKit Go.Sort

set_option maxRecDepth 100000 in
set_option maxHeartbeats 1000000 in
theorem sieve_Put (w : World) (base : Nat) (v : Value) (l : List UInt8) (A : Option Addr) (n c : Nat) (L : List UInt8) (hown : Own w base v l) (hbase : base ≤ w.heap.size) (hlen : l.length + n ≤ 140737488350000) (hr : Reads w w.heap.size 1 A n (L.map vb)) :
    Calls Try.prog 42 #[v, .agg #[.slice A n c]] w (Puts w base v (l ++ wtext L)) := by
  have hO := hown.alloc (.cells #[.slice A n c] 61)
  have hL := hr.len
  have hg : w.grownBy (w.alloc (.cells #[.slice A n c] 61)) v.ownBlock := grown_alloc (World.grownBy.refl w _) _
  have hB : Below w.heap.size w (w.alloc (.cells #[.slice A n c] 61)) := (Below.refl _ _).alloc (Nat.le_refl _) _
  have hcw := run_string_of (w.alloc (.cells #[.slice A n c] 61)) w.heap.size A n c L (hr.alloc (Nat.le_refl _) _)
  have hs : w.heap.size ≤ (w.alloc (.cells #[.slice A n c] 61)).heap.size := hB.size
  have hT := Lib.hid (wire_Text (w.alloc (.cells #[.slice A n c] 61)) base v l ⟨L.toArray⟩ hO (Nat.le_trans hbase hs) (by show l.length + L.toArray.size ≤ _; simp; omega))
  clear hr hown hL
  go_enter Try.func42, Try.ntmps42
  go_wp2_with fail
  refine hT.out.mono ?_
  rintro e w2 ⟨v2, rfl, O2, G2, L2⟩
  have hG := grown_lies hg (lies_refl w v) G2
  have hLi := lies_trans hs (lies_refl w v) L2
  go_wp2_with fail
  go_ret
  exact ⟨_, rfl, O2, hG, hLi⟩

theorem own_one (w : World) (t : TypeId) (ht : t = 5) : Own (w.alloc (.cells #[.int .u8 1] t)) w.heap.size (.slice (some ⟨w.heap.size, 0, none⟩) 1 1) [1] := by
  subst ht
  exact World.ownsRow_lit w #[.int .u8 1] 1 (Nat.le_refl _) (by decide) rfl

set_option maxRecDepth 100000 in
set_option maxHeartbeats 4000000 in
theorem law14_is (A : Option Addr) (n c : Nat) (A2 : Option Addr) (n2 c2 : Nat) (m : List Bool) (w : World) (hr : Reads w w.heap.size 1 A n ((pk m).map vb)) (hr2 : Reads w w.heap.size 1 A2 n2 (m.map Value.bool)) (hn2 : n2 = 8 * n) (hn : n ≤ 65536) :
    Calls Try.prog 61 #[.agg #[.slice A n c], .slice A2 n2 c2] w fun e w' => e = .returned (.bool true) ∧ Below w.heap.size w w' := by
  have hml : m.length = n2 := by have := hr2.1; simpa using this
  have hpl : (pk m).length = n := hr.len
  have HR := Lib.hid hr
  have HR2 := Lib.hid hr2
  have HML := Lib.hid hml
  have HPL := Lib.hid hpl
  have hN2 := Lib.hid hn2
  have hn2b : n2 ≤ 1000000 := by omega
  have BF := Blk.new w 61 #[.slice A n c]
  have hB : Below w.heap.size w (w.alloc (.cells #[.slice A n c] 61)) := (Below.refl _ _).alloc (Nat.le_refl _) _
  clear hr hr2 hml hpl hn2
  go_enter Try.func61, Try.ntmps61
  go_wp2_with fail
  generalize w.alloc (.cells #[.slice A n c] 61) = W at *
  have hSz := filter_Size A n c W (by omega)
  rw [← hN2.out] at hSz
  have HSz := Lib.hid hSz
  clear hSz
  refine HSz.out.mono ?_
  rintro e w1 ⟨rfl, b1⟩
  replace BF := BF.below b1 BF.lt
  replace hB := hB.trans (b1.mono hB.size)
  clear b1 HSz
  have cf := BF.cell
  go_wp2_with fail
  refine (filter_Set A n c m w1 ((HR.out.below hB).more hB.size) (by rw [HML.out]; exact hN2.out) (by omega)).mono ?_
  rintro e w2 ⟨rfl, b2⟩
  replace BF := BF.below b2 BF.lt
  replace hB := hB.trans (b2.mono hB.size)
  clear b2 cf
  go_wp2_with fail
  refine (ref14_Set A2 n2 c2 m w2 _ (HR2.out.below hB) hn2b).mono ?_
  rintro e w3 ⟨rfl, rfl⟩
  have cf := (BF.alloc (.cells #[.int .u8 1] 5)).cell
  go_wp2_with fail
  have O1 := own_one w2 5 rfl
  have hw2 := hB.size
  replace BF := BF.alloc (.cells #[.int .u8 1] 5)
  replace hB := hB.alloc hB.size (.cells #[.int .u8 1] 5)
  have hs2 : w2.heap.size ≤ (w2.alloc (.cells #[.int .u8 1] 5)).heap.size := by simp
  have HP := Lib.hid (sieve_Put (w2.alloc (.cells #[.int .u8 1] 5)) w2.heap.size (.slice (some ⟨w2.heap.size, 0, none⟩) 1 1) [1] A n c (pk m) O1 hs2 (by simp; omega) ((HR.out.below hB).more hB.size))
  clear O1 cf
  refine HP.out.mono ?_
  clear HP
  rintro e w4 ⟨v4, rfl, O4, G4, _⟩
  replace hB := Below.grown hB G4 hB.size (fun q hq => by simp [Value.ownBlock] at hq; omega)
  clear G4 BF
  obtain ⟨A4, c4, rfl, _, R4⟩ := O4.reads
  obtain ⟨k4, hk4⟩ : ∃ k, ([1] ++ wtext (pk m)).length = k := ⟨_, rfl⟩
  rw [hk4] at R4 ⊢
  have HK4 := Lib.hid hk4
  clear O4 hk4
  go_wp2_with fail
  have O5 := own_one w4 5 rfl
  have hs4 := hB.size
  have R5 := R4.alloc (Nat.le_refl _) (.cells #[.int .u8 1] 5)
  replace hB := hB.alloc hB.size (.cells #[.int .u8 1] 5)
  have hs5 : w4.heap.size < (w4.alloc (.cells #[.int .u8 1] 5)).heap.size := by simp
  clear R4
  have HBy := Lib.hid (ref14_Bytes A2 n2 n c2 m (w4.alloc (.cells #[.int .u8 1] 5)) ((HR2.out.below hB).more hB.size) hN2.out hn2b)
  generalize w4.alloc (.cells #[.int .u8 1] 5) = w5 at *
  refine HBy.out.mono ?_
  clear HBy
  rintro e w6 ⟨v6, rfl, O6, b6⟩
  replace O5 := O5.below b6
  have R6 := R5.below (b6.mono (Nat.le_of_lt hs5))
  replace hB := hB.trans (b6.mono hB.size)
  obtain ⟨A6, c6, rfl, _, r6⟩ := O6.reads
  have hs6 := b6.size
  have hpn : (pk m).length = n := HPL.out
  rw [hpn] at r6 ⊢
  have hcw := run_string_of w6 _ A6 n c6 (pk m) r6
  clear r6 O6 b6 R5 hpn
  have HT := Lib.hid (ref03_Text ⟨(pk m).toArray⟩ w6 (by show (pk m).toArray.size ≤ _; have := HPL.out; simp; omega))
  go_wp2_with fail
  refine HT.out.mono ?_
  clear HT hcw
  rintro e w7 ⟨v7, rfl, O7, b7⟩
  replace O5 := O5.below b7
  have R7 := R6.below (b7.mono (by omega))
  replace hB := hB.trans (b7.mono hB.size)
  have hs7 := b7.size
  obtain ⟨A7, c7, rfl, _, r7⟩ := O7.reads
  obtain ⟨k7, hk7⟩ : ∃ k, (wtext (pk m)).length = k := ⟨_, rfl⟩
  have hk74 : k4 ≤ 1 + k7 := by have := HK4.out; rw [List.length_append] at this; simp at this; omega
  have hwl := wput_length (pk m).length (by have := HPL.out; omega)
  have hk7b : k7 ≤ 65600 := by
    have h9 := HPL.out
    have : (wtext (pk m)).length = (wput (pk m).length).length + (pk m).length := by unfold wtext; simp
    omega
  rw [hk7] at r7 ⊢
  clear O7 hk7 hwl b7 R6
  go_wp2_with (at_builtin; refine append_bytes_g w7 rfl _ _ rfl w4.heap.size _ [1] rfl O5 A7 k7 c7 (wtext (pk m)) rfl r7 (by simp; omega) (by omega) ?_; intro v8 w8 O8 G8 L8)
  have hB8 := below_own hB (by omega) O5 (by omega) G8
  have R8 := R7.grown G8 (by omega) (fun x hx => (O5.lt x hx).1)
  have hs8 := G8.size
  obtain ⟨A8, c8, rfl, _, RA8⟩ := O8.reads
  rw [HK4.out] at RA8 ⊢
  clear O8 G8 L8 O5 R7 hB r7
  have hE := bytes_Equal A4 A8 k4 k4 c4 c8 ([1] ++ wtext (pk m)) ([1] ++ wtext (pk m)) w8 (R8.more (by omega)) RA8 (by omega)
  rw [show decide ([1] ++ wtext (pk m) = [1] ++ wtext (pk m)) = true by simp] at hE
  have HE := Lib.hid hE
  clear hE R8 RA8
  go_wp2_with fail
  refine HE.out.mono ?_
  clear HE
  rintro e w9 ⟨rfl, b9⟩
  have hB9 := hB8.trans (b9.mono hB8.size)
  go_wp2_with fail
  go_ret
  exact ⟨rfl, hB9⟩
end Go.Proofs.Ytfebncpfhdgkpaa
