/- Contracts of verse.flag, verse.put, and of the reference's flag and Stamp. -/
import Derived.Test.YtedegdojbhegdaaMixK
import Derived.Test.YtedegdojbhegdaaWireC
import Derived.Test.YtedegdojbhegdaaRows1
import Derived.Test.YtedegdojbhegdaaRdr
import Derived.Deep.Cut
import Derived.Outline
namespace Go.Proofs.Ytedegdojbhegdaa
open Go.RowKit Go.Sort

def b01 (b : Bool) : Int := if b then 1 else 0
/-- A stamp's bytes. -/
def sput (s : Int × Int × Int) : List UInt8 := wputI s.1 ++ wputI s.2.1 ++ wputI s.2.2
theorem sput_len (s : Int × Int × Int) (h1 : s.1 ≤ 9223372036854775807) (h2 : s.2.1 ≤ 9223372036854775807) (h3 : s.2.2 ≤ 9223372036854775807) : (sput s).length ≤ 27 := by
  have := wput_length s.1.toNat (by omega)
  have := wput_length s.2.1.toNat (by omega)
  have := wput_length s.2.2.toNat (by omega)
  unfold sput wputI
  simp only [List.length_append]
  omega
theorem wputI_len (x : Int) (h : x ≤ 9223372036854775807) : (wputI x).length ≤ 9 := by
  unfold wputI
  exact wput_length x.toNat (by omega)

/-- The blocks below a bound, but for the row of a slice. -/
def Outer (N : Nat) (v : Value) (k : Nat) : Prop := k < N ∧ v.ownBlock ≠ some k
theorem stand_puts {N : Nat} {w w' : World} {v v1 : Value} (_ : N ≤ w.heap.size) (hl : v1.ownBlock = v.ownBlock ∨ ∃ g, v1.ownBlock = some g ∧ N ≤ g) (h : w.grownBy w' v1.ownBlock) : Stand (Outer N v) w w' :=
  Stand.of_grown h fun k hk hs => by
    obtain ⟨h1, h2⟩ := hs
    rcases hl with e | ⟨g, e, hg⟩
    · exact h2 (e ▸ hk)
    · rw [e] at hk
      injection hk with hk
      omega

theorem grown_undrew {w w' : World} {row : Option Nat} (h : w.drew.grownBy w' row) : w.grownBy w' row := ⟨h.os, h.tape, h.output, h.size, h.block⟩

set_option maxRecDepth 100000 in
theorem verse_flag (b : Bool) (w : World) : Calls Try.prog 45 #[.bool b] w fun e w' => e = .returned (.int .i64 (b01 b)) ∧ w = w' := by
  cases b
  all_goals
    go_enter Try.func45, Try.ntmps45
    go_wp2_with fail
    go_ret
    exact ⟨rfl, rfl⟩

set_option maxRecDepth 100000 in
set_option maxHeartbeats 1000000 in
theorem verse_put (w : World) (base : Nat) (v : Value) (l : List UInt8) (a b c : Int) (hown : Own w base v l) (hbase : base ≤ w.heap.size) (ha : a ≤ 9223372036854775807) (hb : b ≤ 9223372036854775807) (hc : c ≤ 9223372036854775807) (hlen : l.length ≤ 140737488300000) :
    Calls Try.prog 46 #[v, .agg #[.int .i64 a, .int .i64 b, .int .i64 c]] w (Puts w base v (l ++ sput (a, b, c))) := by
  have HL := Lib.hid (show l ++ sput (a, b, c) = ((l ++ wputI a) ++ wputI b) ++ wputI c by simp [sput])
  rw [HL.out]
  clear HL
  have BK := Blk.new w 24 #[.int .i64 a, .int .i64 b, .int .i64 c]
  have hO := Lib.hid (hown.alloc (.cells #[.int .i64 a, .int .i64 b, .int .i64 c] 24))
  have hS : w.heap.size < (w.alloc (.cells #[.int .i64 a, .int .i64 b, .int .i64 c] 24)).heap.size := by simp
  have hgr := Lib.hid (grown_alloc (grown_refl w v.ownBlock) (.cells #[.int .i64 a, .int .i64 b, .int .i64 c] 24))
  have hne : Hid (v.ownBlock ≠ some w.heap.size) := Lib.hid (fun e => by have := (hown.lt _ e).2; omega)
  clear hown
  go_enter Try.func46, Try.ntmps46
  go_upto_region 1 with fail
  generalize w.alloc (.cells #[.int .i64 a, .int .i64 b, .int .i64 c] 24) = W at *
  have q0 : ∀ p : Kept (Outer W.heap.size v) W.drew, p.v.cell? ⟨w.heap.size, 0, none⟩ = some (.int .i64 a) := fun p => p.h.cell ⟨hS, hne.out⟩ (BK.drew.cell 0)
  have q1 : ∀ p : Kept (Outer W.heap.size v) W.drew, p.v.cell? ⟨w.heap.size, 1, none⟩ = some (.int .i64 b) := fun p => p.h.cell ⟨hS, hne.out⟩ (BK.drew.cell 1)
  have q2 : ∀ p : Kept (Outer W.heap.size v) W.drew, p.v.cell? ⟨w.heap.size, 2, none⟩ = some (.int .i64 c) := fun p => p.h.cell ⟨hS, hne.out⟩ (BK.drew.cell 2)
  refine wp_region_mixDk (M := []) (Outer W.heap.size v) [0, 1, 2, 4, 5, 7, 8, 3, 6, 9, 10] (by kernel_rfl) (by kernel_rfl) ?_
  iterate 7 (refine mix_calmDk rfl rfl ?_; go_big_quiet_step (fail); refine wpQuiet_nil ?_)
  have hWs : W.heap.size ≤ W.drew.heap.size := Nat.le_refl _
  refine mix_loudDk rfl (by kernel_rfl) rfl ?_
  intro K1 hK1
  have HK := Lib.hid hK1
  clear hK1 q0 q1 q2 BK
  go_wp2_with fail
  refine (wire_Put W.drew base v l a hO.out (show base ≤ W.heap.size by omega) ha (by omega)).mono ?_
  rintro x w1 ⟨v1, rfl, O1, G1, L1⟩
  have O1 := Lib.hid O1
  have hs1 := Nat.le_trans hWs G1.size
  have L1 := Lib.hid L1
  have G1 := Lib.hid G1
  go_wp2_with fail
  refine HK.out _ _ (stand_puts hWs (.inl rfl) G1.out) ?_
  clear HK
  refine mix_loudDk rfl (by kernel_rfl) rfl ?_
  intro K1 hK1
  have HK := Lib.hid hK1
  clear hK1
  have l1 := wputI_len a ha
  go_wp2_with fail
  refine (wire_Put w1 base v1 (l ++ wputI a) b O1.out (by omega) hb (by rw [List.length_append]; omega)).mono ?_
  rintro x w2 ⟨v2, rfl, O2, G2, L2⟩
  have O2 := Lib.hid O2
  have hs2 := Nat.le_trans hs1 G2.size
  have L2 := Lib.hid L2
  have G2 := Lib.hid G2
  go_wp2_with fail
  refine HK.out _ _ (stand_puts hs1 (by rcases L1.out with h | ⟨g, h, h'⟩; exact .inl h; exact .inr ⟨g, h, h'⟩) G2.out) ?_
  clear HK
  refine mix_loudDk rfl (by kernel_rfl) rfl ?_
  intro K1 hK1
  have HK := Lib.hid hK1
  clear hK1
  have l2 := wputI_len b hb
  go_wp2_with fail
  refine (wire_Put w2 base v2 ((l ++ wputI a) ++ wputI b) c O2.out (by omega) hc (by rw [List.length_append, List.length_append]; omega)).mono ?_
  rintro x w3 ⟨v3, rfl, O3, G3, L3⟩
  have O3 := Lib.hid O3
  have hs3 := Nat.le_trans hs2 G3.size
  have L3 := Lib.hid L3
  have G3 := Lib.hid G3
  have L12 := Lib.hid (lies_trans (Nat.le_trans hWs G1.out.size) L1.out L2.out)
  go_wp2_with fail
  refine HK.out _ _ (stand_puts hs2 (by rcases L12.out with h | ⟨g, h, h'⟩; exact .inl h; exact .inr ⟨g, h, h'⟩) G3.out) ?_
  clear HK
  refine mix_calmDk rfl rfl ?_
  go_big_quiet_step (fail)
  refine wpQuiet_nil ?_
  refine mix_endDk ?_
  go_wp2_with fail
  go_ret
  exact Puts.next hgr.out (lies_refl _ _) (Puts.next (grown_undrew G1.out) L1.out (Puts.next G2.out L2.out ⟨v3, rfl, O3.out, G3.out, L3.out⟩))
end Go.Proofs.Ytedegdojbhegdaa
