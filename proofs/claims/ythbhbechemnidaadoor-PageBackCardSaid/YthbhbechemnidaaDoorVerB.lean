/- Contracts of verse.flag, verse.put, and of the reference's flag and Stamp. Contracts of the reference's Stamp and stamp, and of verse.right. -/
import Derived.Test.YthbhbechemnidaaDoorMixK
import Derived.Test.YthbhbechemnidaaDoorWireC
import Derived.Test.YthbhbechemnidaaDoorRows1
import Derived.Test.YthbhbechemnidaaDoorRdr
import Derived.Deep.Cut
import Derived.Outline
import Derived.Test.YthbhbechemnidaaDoorStampC
import Derived.Deep.DeepMust
namespace Go.Proofs.YthbhbechemnidaaDoor
open Go.RowKit Go.Sort

def b01 (b : Bool) : Int := if b then 1 else 0
/-- A stamp's bytes. -/
def sput (s : Int × Int × Int) : List UInt8 := wputI s.1 ++ wputI s.2.1 ++ wputI s.2.2
theorem sput_len (s : Int × Int × Int) (h1 : s.1 ≤ 9223372036854775807) (h2 : s.2.1 ≤ 9223372036854775807) (h3 : s.2.2 ≤ 9223372036854775807) : (sput s).length ≤ 27 := by
  have := wput_length s.1.toNat (by omega)
  have := wput_length s.2.1.toNat (by omega)
  have := wput_length s.2.2.toNat (by omega)
  unfold sput wputI
  simp only [List.length_append]
  omega
theorem wputI_len (x : Int) (h : x ≤ 9223372036854775807) : (wputI x).length ≤ 9 := by
  unfold wputI
  exact wput_length x.toNat (by omega)

/-- The blocks below a bound, but for the row of a slice. -/
def Outer (N : Nat) (v : Value) (k : Nat) : Prop := k < N ∧ v.ownBlock ≠ some k
theorem stand_puts {N : Nat} {w w' : World} {v v1 : Value} (_ : N ≤ w.heap.size) (hl : v1.ownBlock = v.ownBlock ∨ ∃ g, v1.ownBlock = some g ∧ N ≤ g) (h : w.grownBy w' v1.ownBlock) : Stand (Outer N v) w w' :=
  Stand.of_grown h fun k hk hs => by
    obtain ⟨h1, h2⟩ := hs
    rcases hl with e | ⟨g, e, hg⟩
    · exact h2 (e ▸ hk)
    · rw [e] at hk
      injection hk with hk
      omega

theorem grown_undrew {w w' : World} {row : Option Nat} (h : w.drew.grownBy w' row) : w.grownBy w' row := ⟨h.os, h.tape, h.output, h.size, h.block⟩

end Go.Proofs.YthbhbechemnidaaDoor

namespace Go.Proofs.YthbhbechemnidaaDoor
open Go.RowKit Go.Sort

theorem stand_low {N : Nat} {w w' : World} (h : Below N w w') (_ : N ≤ w.heap.size) : Stand (· < N) w w' := ⟨h.os, h.tape, h.output, h.size, fun k _ hs => h.block k hs⟩
theorem stand_own {N base : Nat} {w w' : World} {v : Value} {l : List UInt8} (hO : Own w base v l) (hb : N ≤ base) (h : w.grownBy w' v.ownBlock) : Stand (· < N) w w' :=
  Stand.of_grown h fun k hk hs => by have := (hO.lt k hk).1; omega
theorem below_undrew {B : Nat} {w w' : World} (h : Below B w.drew w') : Below B w w' := ⟨h.os, h.tape, h.output, h.size, h.block⟩

set_option maxRecDepth 100000 in
set_option maxHeartbeats 1000000 in
theorem ref07_Stamp (a b c : Int) (ha : a ≤ 9223372036854775807) (hb : b ≤ 9223372036854775807) (hc : c ≤ 9223372036854775807) (w : World) :
    Calls Tryd.prog 87 #[.agg #[.int .i64 a, .int .i64 b, .int .i64 c]] w (Fresh w (sput (a, b, c))) := by
  have HL := Lib.hid (show sput (a, b, c) = (wputI a ++ wputI b) ++ wputI c by simp [sput])
  rw [HL.out]
  clear HL
  have BK := Blk.new w 32 #[.int .i64 a, .int .i64 b, .int .i64 c]
  have hS : w.heap.size < (w.alloc (.cells #[.int .i64 a, .int .i64 b, .int .i64 c] 32)).heap.size := by simp
  have hB : Below w.heap.size w (w.alloc (.cells #[.int .i64 a, .int .i64 b, .int .i64 c] 32)) := (Below.refl _ _).alloc (Nat.le_refl _) _
  go_enter Tryd.func87, Tryd.ntmps87
  go_upto_region 1 with fail
  generalize w.alloc (.cells #[.int .i64 a, .int .i64 b, .int .i64 c] 32) = W at *
  have q0 : ∀ p : Kept (· < W.heap.size) W.drew, p.v.cell? ⟨w.heap.size, 0, none⟩ = some (.int .i64 a) := fun p => p.h.cell hS (BK.drew.cell 0)
  have q1 : ∀ p : Kept (· < W.heap.size) W.drew, p.v.cell? ⟨w.heap.size, 1, none⟩ = some (.int .i64 b) := fun p => p.h.cell hS (BK.drew.cell 1)
  have q2 : ∀ p : Kept (· < W.heap.size) W.drew, p.v.cell? ⟨w.heap.size, 2, none⟩ = some (.int .i64 c) := fun p => p.h.cell hS (BK.drew.cell 2)
  have la := wputI_len a ha
  have lb := wputI_len b hb
  have lc := wputI_len c hc
  have hWd : W.heap.size ≤ W.drew.heap.size := Nat.le_refl _
  refine wp_region_mixDk (M := []) (· < W.heap.size) [0, 1, 3, 4, 7, 8, 2, 5, 6, 9, 10, 11] (by kernel_rfl) (by kernel_rfl) ?_
  iterate 6 (refine mix_calmDk rfl rfl ?_; go_big_quiet_step (fail); refine wpQuiet_nil ?_)
  refine mix_loudDk rfl (by kernel_rfl) rfl ?_
  intro K1 hK1
  have HK := Lib.hid hK1
  clear hK1 q0 q1 q2 BK
  go_wp2_with fail
  refine (ref03_Put a W.drew ha).mono ?_
  rintro x w1 ⟨v1, rfl, o1, b1⟩
  have O1 := Lib.hid (o1.base_le (base' := W.heap.size) (Nat.le_refl _))
  have hs1 := Nat.le_trans hWd b1.size
  have HB := Lib.hid (b1.mono (B' := W.heap.size) (Nat.le_refl _))
  clear o1 b1
  go_wp2_with fail
  refine HK.out _ _ (stand_low HB.out hWd) ?_
  clear HK
  refine mix_loudDk rfl (by kernel_rfl) rfl ?_
  intro K1 hK1
  have HK := Lib.hid hK1
  clear hK1 
  go_wp2_with fail
  refine (ref03_Put b w1 hb).mono ?_
  rintro x w2 ⟨v2, rfl, o2, b2⟩
  replace O1 := Lib.hid (O1.out.below b2)
  have O2 := Lib.hid (o2.base_le (base' := W.heap.size) hs1)
  have hs2 := Nat.le_trans hs1 b2.size
  have HB2 := Lib.hid (b2.mono hs1)
  replace HB := Lib.hid (HB.out.trans HB2.out)
  clear o2 b2
  go_wp2_with fail
  refine HK.out _ _ (stand_low HB2.out hs1) ?_
  clear HK
  obtain ⟨A2, c2, rfl, _, R2⟩ := O2.out.reads
  have R2 := Lib.hid R2
  refine mix_loudDk rfl (by kernel_rfl) rfl ?_
  intro K1 hK1
  have HK := Lib.hid hK1
  clear hK1 
  go_wp2_with (at_builtin; go_must (refine append_bytes w2 rfl _ _ rfl W.heap.size v1 (wputI a) rfl O1.out A2 _ c2 (wputI b) rfl R2.out (by omega) hs2 ?_); intro v3 w3 O3 G3 _)
  have HS3 := Lib.hid (stand_own O1.out (Nat.le_refl _) G3)
  replace HB := Lib.hid (Below.grown HB.out G3 hs2 (fun q hq => (O1.out.lt q hq).1))
  have hs3 := Nat.le_trans hs2 G3.size
  have O3 := Lib.hid O3
  clear G3
  refine HK.out _ _ (HS3.out) ?_
  clear HK
  clear O1 O2 R2
  refine mix_loudDk rfl (by kernel_rfl) rfl ?_
  intro K1 hK1
  have HK := Lib.hid hK1
  clear hK1 
  go_wp2_with fail
  refine (ref03_Put c w3 hc).mono ?_
  rintro x w4 ⟨v4, rfl, o4, b4⟩
  replace O3 := Lib.hid (O3.out.below b4)
  have O4 := Lib.hid (o4.base_le (base' := W.heap.size) hs3)
  have hs4 := Nat.le_trans hs3 b4.size
  have HB4 := Lib.hid (b4.mono hs3)
  replace HB := Lib.hid (HB.out.trans HB4.out)
  clear o4 b4
  go_wp2_with fail
  refine HK.out _ _ (stand_low HB4.out hs3) ?_
  clear HK
  obtain ⟨A4, c4, rfl, _, R4⟩ := O4.out.reads
  have R4 := Lib.hid R4
  refine mix_loudDk rfl (by kernel_rfl) rfl ?_
  intro K1 hK1
  have HK := Lib.hid hK1
  clear hK1 
  go_wp2_with (at_builtin; go_must (refine append_bytes w4 rfl _ _ rfl W.heap.size v3 (wputI a ++ wputI b) rfl O3.out A4 _ c4 (wputI c) rfl R4.out (by rw [List.length_append]; omega) hs4 ?_); intro v5 w5 O5 G5 _)
  have HS5 := Lib.hid (stand_own O3.out (Nat.le_refl _) G5)
  replace HB := Lib.hid (Below.grown HB.out G5 hs4 (fun q hq => (O3.out.lt q hq).1))
  have O5 := Lib.hid O5
  clear G5
  refine HK.out _ _ (HS5.out) ?_
  clear HK
  iterate 1 (refine mix_calmDk rfl rfl ?_; go_big_quiet_step (fail); refine wpQuiet_nil ?_)
  refine mix_endDk ?_
  go_wp2_with fail
  go_ret
  exact ⟨v5, rfl, O5.out.base_le (Nat.le_of_lt hS), hB.trans ((below_undrew HB.out).mono (Nat.le_of_lt hS))⟩

/-- May a stamp be kept: one that may be, or none? -/
def sokB (a b c : Int) : Bool := (a == 0 && b == 0 && c == 0) || rightB a b c
end Go.Proofs.YthbhbechemnidaaDoor
