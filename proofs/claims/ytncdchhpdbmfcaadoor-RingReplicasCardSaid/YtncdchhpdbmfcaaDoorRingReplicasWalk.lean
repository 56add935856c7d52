/- Contract of the reference's Has; the walk of RingReplicas. -/
import Derived.Test.YtncdchhpdbmfcaaDoorRngT
namespace Go.Proofs.YtncdchhpdbmfcaaDoor
open Go.RowKit Go.Sort

set_option maxRecDepth 100000 in
theorem ref20_Has (N C : Nat) (A : Option Addr) (n c : Nat) (K : List ByteArray) (i node : Int) (w : World) (hr : Reads w w.heap.size 1 A n (K.map Value.string)) (hn : n ≤ 3) (hz : ∀ s ∈ K, s.size ≤ 200) (hN5 : N ≤ 5) (hCN : C ≤ N) (h1 : -9223372036854775808 ≤ i) (h2 : i ≤ 9223372036854775807) (X : List Int) (hX : repls (⟨#[]⟩ :: K) (sortU (plcs (N * 4))) (C : Int) i = X) (hXl : X.length ≤ 100) :
    Calls Tryd.prog 15 #[.int .i64 (N : Int), .int .i64 (C : Int), .slice A n c, .int .i64 i, .int .i64 node] w fun e w' => e = .returned (.bool (X.any fun y => node == y)) ∧ Below w.heap.size w w' := by
  have HC := Lib.hid (ref20_Replicas N C A n c K i w hr hn hz hN5 hCN h1 h2)
  rw [hX] at HC
  clear hr hX hz
  go_enter Tryd.func15, Tryd.ntmps15
  go_wp2_with fail
  refine HC.out.mono ?_
  rintro e w1 ⟨v, rfl, o1, b1⟩
  obtain ⟨z, hzl⟩ : ∃ z, X.length = z := ⟨_, rfl⟩
  obtain ⟨A1, c1, hv, -, -, hr1⟩ := o1.reads
  rw [hzl] at hv hr1 hXl
  subst hv
  have HR := Lib.hid hr1
  clear hr1 o1 hzl
  go_wp2_with fail
  refine (ref20_in A1 z c1 X node w1 HR.out (by omega)).mono ?_
  rintro e w2 ⟨rfl, rfl⟩
  go_wp2_with fail
  go_ret
  exact ⟨rfl, b1⟩

attribute [local irreducible] NC.wpMixDk
set_option maxRecDepth 100000 in
set_option maxHeartbeats 1500000 in
theorem ring_replicas_walk (w : World) (hT : Tabs w) (nodes copies : Int) (h1 : (Lit.int .i64 nodes).wf = true) (h2 : (Lit.int .i64 copies).wf = true) (A : Option Addr) (n c : Nat) (K : List ByteArray) (hn : n ≤ maxLen) (hr : Reads w w.heap.size 1 A n (K.map Value.string)) (hz : ∀ s ∈ K, s.size ≤ maxLen) (i : Int) (h3 : (Lit.int .i64 i).wf = true) (node : Int) (h4 : (Lit.int .i64 node).wf = true) :
    Calls Tryd.prog 4 #[argS nodes copies A n c, .int .i64 i, .int .i64 node] w fun e w' => e = .returned (.bool true) ∧ Below w.heap.size w w' := by
  have h4 : -9223372036854775808 ≤ node ∧ node ≤ 9223372036854775807 := by simpa [Lit.wf] using bounds_i64 h4
  have h1 : -9223372036854775808 ≤ nodes ∧ nodes ≤ 9223372036854775807 := by simpa [Lit.wf] using bounds_i64 h1
  have h2 : -9223372036854775808 ≤ copies ∧ copies ≤ 9223372036854775807 := by simpa [Lit.wf] using bounds_i64 h2
  have h3 : -9223372036854775808 ≤ i ∧ i ≤ 9223372036854775807 := by simpa [Lit.wf] using bounds_i64 h3
  unfold argS
  have hN : K.length = n := by have := hr.1; simpa using this
  have hzm : ∀ s ∈ K, s.size ≤ maxLen := hz
  obtain ⟨w2, hw2⟩ : ∃ w2, w.alloc (.cells #[.int .i64 nodes, .int .i64 copies, .slice A n c] 24) = w2 := ⟨_, rfl⟩
  have b2 : Below w.heap.size w w2 := by rw [← hw2]; exact (Below.refl _ _).alloc (Nat.le_refl _) _
  have BS : Blk w2 w.heap.size 24 #[.int .i64 nodes, .int .i64 copies, .slice A n c] := by rw [← hw2]; exact Blk.new _ _ _
  have hr2 := (hr.below b2).more b2.size
  have HG := Lib.hid (law20_great A n c K w2 hr2 (by unfold maxLen at hn; omega) hzm)
  have HNW := Lib.hid (fun (m : Int) (hm1 : -9223372036854775808 ≤ m) (hm2 : m ≤ 9223372036854775807) w1 (b : Below w.heap.size w w1) => ring_New m copies A n c K w1 (hT.below b) ((hr.below b).more b.size) (by unfold maxLen at hn; omega) hzm hm1 hm2 h2.1 h2.2)
  have HW2 := Lib.hid hw2
  have HR := Lib.hid hr
  have HN := Lib.hid hN
  clear hw2 hr2 hr hN
  obtain ⟨g, hg⟩ : ∃ g, w.heap.size = g := ⟨_, rfl⟩
  have HGG := Lib.hid hg
  have HB2 := Lib.hid b2
  clear b2
  rw [hg] at BS
  have s0 := BS.cell 0
  have s1 := BS.cell 1
  have s2 := BS.cell 2
  go_enter Tryd.func4, Tryd.ntmps4
  go_upto_region 1 with fail
  rw [HW2.out]
  go_wp2_with fail
  refine HG.out.mono ?_
  rintro e w3 ⟨q, rfl, hq, rfl⟩
  cases q with
  | true =>
    go_wp2_with fail
    go_ret
    exact ⟨rfl, HGG.out ▸ HB2.out⟩
  | false =>
    obtain ⟨hn10, hz200⟩ := hq rfl
    have HZ := Lib.hid hz200
    clear hq hz200
    have HRT := Lib.hid (ref20_Right nodes copies A n c K w2 (hT.below HB2.out) ((HR.out.below HB2.out).more HB2.out.size) (by omega) (fun s hs => by have := HZ.out s hs; omega) h1.1 h1.2 h2.1 h2.2)
    have HAL := Lib.hid (fun w1 (b : Below w.heap.size w w1) => law20_alive w1 (hT.below b))
    go_wp2_with fail
    refine HRT.out.mono ?_
    rintro e w4 ⟨q, rfl, hq, b4⟩
    have hb4 := HB2.out.trans (b4.mono HB2.out.size)
    have HQ := Lib.hid hq
    clear hq
    replace BS := BS.below b4 BS.lt
    replace s0 := BS.cell 0
    replace s1 := BS.cell 1
    replace s2 := BS.cell 2
    cases q with
    | false =>
      go_wp2_with fail
      go_ret
      exact ⟨rfl, HGG.out ▸ hb4⟩
    | true =>
      have hRI : RightR nodes copies K := HQ.out.1 rfl
      obtain ⟨N, rfl⟩ : ∃ N : Nat, nodes = N := ⟨nodes.toNat, by have := hRI.1; omega⟩
      obtain ⟨C, rfl⟩ : ∃ C : Nat, copies = C := ⟨copies.toNat, by have := hRI.2.2.1; omega⟩
      have hN5 : N ≤ 5 := by have := hRI.2.1; omega
      have hCN : C ≤ N := by have := hRI.2.2.2.1; omega
      have hn3 : n ≤ 3 := by have := hRI.2.2.2.2.1; have := HN.out; omega
      have HRI := Lib.hid hRI
      clear hRI HQ
      go_wp2_with fail
      refine (HNW.out (N : Int) h1.1 h1.2 w4 hb4).mono ?_
      rintro e w5 (⟨_, N5, g5, hN5', rfl, hR5, b5⟩ | ⟨h, _⟩)
      · obtain rfl : N5 = N := by omega
        have hb5 := below_drewN (hb4.trans (b5.mono hb4.size)) 1
        replace BS := (BS.below b5 BS.lt).drew
        have HR5 := Lib.hid (hR5.below ((Below.refl w5.heap.size w5).drew))
        have hSl : ((⟨#[]⟩ : ByteArray) :: K).length ≤ 100 := by rw [List.length_cons]; have := HN.out; omega
        have hP5 : (sortU (plcs (N5 * 4))).length ≤ 100 := by rw [(sortU_perm _).length_eq, plcs_len]; omega
        have HA1 := Lib.hid (ring_Replicas g5 (⟨#[]⟩ :: K) (N5 : Int) (C : Int) _ i w5.drew HR5.out (sortU_upU _) hSl hP5 h3.1 h3.2)
        have HA2 := Lib.hid (fun w1 (b : Below w5.drew.heap.size w5.drew w1) => ref20_Replicas N5 C A n c K i w1 ((HR.out.below (hb5.trans (b.mono hb5.size))).more (hb5.trans (b.mono hb5.size)).size) hn3 HZ.out hN5 hCN h3.1 h3.2)
        have HA3 := Lib.hid (fun w1 (b : Below w5.drew.heap.size w5.drew w1) => ring_Has g5 (⟨#[]⟩ :: K) (N5 : Int) (C : Int) _ node i w1 (HR5.out.below b) (sortU_upU _) hSl hP5 h3.1 h3.2)
        have hXl : (repls (⟨#[]⟩ :: K) (sortU (plcs (N5 * 4))) (C : Int) i).length ≤ 100 := by
          unfold repls
          split
          · exact Nat.zero_le _
          · exact Nat.le_trans (replR_len _ _ _ _) hP5
        have HA4 := Lib.hid (fun w1 (b : Below w5.drew.heap.size w5.drew w1) => ref20_Has N5 C A n c K i node w1 ((HR.out.below (hb5.trans (b.mono hb5.size))).more (hb5.trans (b.mono hb5.size)).size) hn3 HZ.out hN5 hCN h3.1 h3.2 _ rfl hXl)
        obtain ⟨X, hX⟩ : ∃ X, repls (⟨#[]⟩ :: K) (sortU (plcs (N5 * 4))) (C : Int) i = X := ⟨_, rfl⟩
        rw [hX] at hXl HA1
        simp only [hX] at HA2 HA3 HA4
        obtain ⟨z, hzl⟩ : ∃ z, X.length = z := ⟨_, rfl⟩
        obtain ⟨q, hq⟩ : ∃ q, (X.any fun y => node == y) = q := ⟨_, rfl⟩
        simp only [hq] at HA3 HA4
        rw [hzl] at hXl
        have HZL := Lib.hid hzl
        clear hR5 b5 hb4 b4 hN5' hX hSl hP5 hzl hq s0 s1 s2
        have q0 : ∀ p : Kept (fun _ => True) w5.drew, p.v.cell? ⟨g, 0, none⟩ = some (.int .i64 (N5 : Int)) := fun p => p.h.cell trivial (BS.cell 0)
        have q1 : ∀ p : Kept (fun _ => True) w5.drew, p.v.cell? ⟨g, 1, none⟩ = some (.int .i64 (C : Int)) := fun p => p.h.cell trivial (BS.cell 1)
        have q2 : ∀ p : Kept (fun _ => True) w5.drew, p.v.cell? ⟨g, 2, none⟩ = some (.slice A n c) := fun p => p.h.cell trivial (BS.cell 2)
        go_upto_region 6 with fail
        refine NC.wp_region_mixDk (M := []) (fun _ => True) [0, 1, 3, 4, 5, 6, 7, 8, 9, 2, 10, 11, 12, 13, 14, 15, 17, 18, 19, 20, 21, 22, 23, 24, 16, 25, 26, 27, 28, 29, 30, 31] (by kernel_rfl) (by kernel_rfl) ?_
        iterate 9 (refine NC.mix_calmDk rfl rfl ?_; go_big_quiet_step (fail); refine wpQuiet_nil ?_)
        clear q0 q1 q2
        refine NC.mix_loudDk rfl (by kernel_rfl) rfl ?_
        intro K1 hK1
        have HK := Lib.hid hK1
        clear hK1
        go_wp2_with fail
        refine HA1.out.mono ?_
        rintro e w6 ⟨vx, rfl, ox, b6⟩
        obtain ⟨Ax, cx, hvx, -, -, hrx⟩ := ox.reads
        rw [HZL.out] at hvx hrx
        subst hvx
        have HX6 := Lib.hid hrx
        clear hrx ox
        go_wp2_with fail
        refine HK.out _ _ (Stand.of_below b6) ?_
        clear HK
        refine NC.mix_loudDk rfl (by kernel_rfl) rfl ?_
        intro K1 hK1
        have HK := Lib.hid hK1
        clear hK1
        go_wp2_with fail
        refine (HA2.out w6 b6).mono ?_
        rintro e w7 ⟨vy, rfl, oy, b7⟩
        obtain ⟨Ay, cy, hvy, -, -, hry⟩ := oy.reads
        rw [HZL.out] at hvy hry
        subst hvy
        have HY7 := Lib.hid hry
        have HX7 := Lib.hid ((HX6.out.below b7).more b7.size)
        clear hry oy
        go_wp2_with fail
        refine HK.out _ _ (Stand.of_below b7) ?_
        clear HK
        have hb7 := b6.trans (b7.mono b6.size)
        have HEQ := Lib.hid (ints_Equal Ax Ay z z cx cy X X w7 HX7.out HY7.out (by omega))
        simp only [decide_true] at HEQ
        refine NC.mix_loudDk rfl (by kernel_rfl) rfl ?_
        intro K1 hK1
        have HK := Lib.hid hK1
        clear hK1
        go_wp2_with fail
        refine HEQ.out.mono ?_
        rintro e w8 ⟨rfl, b8⟩
        go_wp2_with fail
        refine HK.out _ _ (Stand.of_below b8) ?_
        clear HK
        have hb8 := hb7.trans (b8.mono hb7.size)
        have BS8 := BS.below hb8 BS.lt
        have q0 : ∀ p : Kept (fun _ => True) w8, p.v.cell? ⟨g, 0, none⟩ = some (.int .i64 (N5 : Int)) := fun p => p.h.cell trivial (BS8.cell 0)
        have q1 : ∀ p : Kept (fun _ => True) w8, p.v.cell? ⟨g, 1, none⟩ = some (.int .i64 (C : Int)) := fun p => p.h.cell trivial (BS8.cell 1)
        have q2 : ∀ p : Kept (fun _ => True) w8, p.v.cell? ⟨g, 2, none⟩ = some (.slice A n c) := fun p => p.h.cell trivial (BS8.cell 2)
        iterate 12 (refine NC.mix_calmDk rfl rfl ?_; go_big_quiet_step (fail); refine wpQuiet_nil ?_)
        clear q0 q1 q2
        refine NC.mix_loudDk rfl (by kernel_rfl) rfl ?_
        intro K1 hK1
        have HK := Lib.hid hK1
        clear hK1
        go_wp2_with fail
        refine (HA3.out w8 hb8).mono ?_
        rintro e w9 ⟨rfl, b9⟩
        go_wp2_with fail
        refine HK.out _ _ (Stand.of_below b9) ?_
        clear HK
        have hb9 := hb8.trans (b9.mono hb8.size)
        refine NC.mix_loudDk rfl (by kernel_rfl) rfl ?_
        intro K1 hK1
        have HK := Lib.hid hK1
        clear hK1
        go_wp2_with fail
        refine (HA4.out w9 hb9).mono ?_
        rintro e w10 ⟨rfl, b10⟩
        go_wp2_with fail
        refine HK.out _ _ (Stand.of_below b10) ?_
        clear HK
        have hb10 := hb9.trans (b10.mono hb9.size)
        iterate 3 (refine NC.mix_calmDk rfl rfl ?_; go_big_quiet_step (fail); refine wpQuiet_nil ?_)
        refine NC.mix_loudDk rfl (by kernel_rfl) rfl ?_
        intro K1 hK1
        have HK := Lib.hid hK1
        clear hK1
        go_wp2_with fail
        refine (HAL.out w10 (hb5.trans (hb10.mono hb5.size))).mono ?_
        rintro e w11 ⟨rfl, b11⟩
        go_wp2_with fail
        refine HK.out _ _ (Stand.of_below b11) ?_
        clear HK
        have hb11 := hb10.trans (b11.mono hb10.size)
        iterate 2 (refine NC.mix_calmDk rfl rfl ?_; go_big_quiet_step (fail); refine wpQuiet_nil ?_)
        refine NC.mix_endDk ?_
        go_wp2_with fail
        go_ret
        exact ⟨rfl, HGG.out ▸ hb5.trans (hb11.mono hb5.size)⟩
      · exact absurd HRI.out h
end Go.Proofs.YtncdchhpdbmfcaaDoor
