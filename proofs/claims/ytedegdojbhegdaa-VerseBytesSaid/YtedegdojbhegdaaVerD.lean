/- Contracts of the reference's flag and Put: a version's bytes. -/
import Derived.Test.YtedegdojbhegdaaVerC
namespace Go.Proofs.Ytedegdojbhegdaa
open Go.RowKit Go.Sort

theorem flag_put (b : Bool) : wputI (b01 b) = [if b then 1 else 0] := by cases b <;> simp [wputI, b01, wput, hi_zero]
set_option maxRecDepth 100000 in
theorem ref17_flag (b : Bool) (w : World) : Calls Try.prog 48 #[.bool b] w (Fresh w (wputI (b01 b))) := by
  have H : ∀ c : UInt8, Own (w.alloc (.cells #[vb c] 5)) w.heap.size (.slice (some ⟨w.heap.size, 0, none⟩) 1 1) [c] := fun c => by
    have := World.ownsRow_lit (e := 5) (size := 1) w #[vb c] 1 (Nat.le_refl _) (by unfold maxLen; omega) (by simp)
    simpa [Own] using this
  cases b
  · have H1 := Lib.hid (H 0)
    have HF := Lib.hid (flag_put false)
    clear H
    go_enter Try.func48, Try.ntmps48
    go_wp2_with fail
    go_ret
    exact ⟨_, rfl, by rw [HF.out]; exact H1.out, (Below.refl _ _).alloc (Nat.le_refl _) _⟩
  · have H1 := Lib.hid (H 1)
    have HF := Lib.hid (flag_put true)
    clear H
    go_enter Try.func48, Try.ntmps48
    go_wp2_with fail
    go_ret
    exact ⟨_, rfl, by rw [HF.out]; exact H1.out, (Below.refl _ _).alloc (Nat.le_refl _) _⟩

set_option maxRecDepth 100000 in
set_option maxHeartbeats 4000000 in
theorem ref17_Put (v : Ver) (A : Option Addr) (n c : Nat) (hi : v.In) (w : World) (hr : Reads w w.heap.size 2 A n (v.tabs.flatMap tc)) (hn : n ≤ 100000) :
    Calls Try.prog 15 #[.agg (verC v (.slice A n c))] w (Fresh w (vput v)) := by
  have hll := tabs_n hr
  have BK := Blk.new w 29 (verC v (.slice A n c))
  have hW : (w.alloc (.cells (verC v (.slice A n c)) 29)).heap.size = w.heap.size + 1 := by simp
  have hB : Below w.heap.size w (w.alloc (.cells (verC v (.slice A n c)) 29)) := (Below.refl _ _).alloc (Nat.le_refl _) _
  have HI := Lib.hid hi
  have HR := Lib.hid hr
  have HLL := Lib.hid hll
  have hs0 : w.heap.size + 1 ≤ (w.alloc (.cells (verC v (.slice A n c)) 29)).drew.heap.size := Nat.le_of_eq hW.symm
  have hg : w.heap.size < w.heap.size + 1 := Nat.lt_succ_self _
  clear hi hr hll hW
  go_enter Try.func15, Try.ntmps15
  go_upto_region 1 with fail
  generalize w.alloc (.cells (verC v (.slice A n c)) 29) = W at *
  have q0 : ∀ p : Kept (· < w.heap.size + 1) W.drew, p.v.cell? ⟨w.heap.size, 0, none⟩ = some (.int .i64 v.log) := fun p => p.h.cell hg (BK.drew.cell 0)
  have q1 : ∀ p : Kept (· < w.heap.size + 1) W.drew, p.v.cell? ⟨w.heap.size, 1, none⟩ = some (.int .i64 v.next) := fun p => p.h.cell hg (BK.drew.cell 1)
  have l0 := wputI_len v.log HI.out.log
  have l1 := wputI_len v.next HI.out.next
  have HB := Lib.hid (Below.refl (w.heap.size + 1) W.drew)
  refine wp_region_mixDk (M := []) (· < w.heap.size + 1) [0, 1, 3, 4, 2, 5, 6, 7] (by kernel_rfl) (by kernel_rfl) ?_
  iterate 4 (refine mix_calmDk rfl rfl ?_; go_big_quiet_step (fail); refine wpQuiet_nil ?_)
  refine mix_loudDk rfl (by kernel_rfl) rfl ?_
  intro K1 hK1
  have HK := Lib.hid hK1
  clear hK1 q0 q1
  go_wp2_with fail
  refine (ref03_Put v.log W.drew HI.out.log).mono ?_
  rintro x w1 ⟨v1, rfl, o1, b1⟩
  have O1 := Lib.hid (o1.base_le (base' := w.heap.size + 1) hs0)
  have hs1 := Nat.le_trans hs0 b1.size
  have HX1 := Lib.hid (b1.mono (B' := w.heap.size + 1) hs0)
  replace HB := Lib.hid (HB.out.trans HX1.out)
  clear o1 b1
  go_wp2_with fail
  refine HK.out _ _ (stand_low HX1.out hs0) ?_
  clear HK
  refine mix_loudDk rfl (by kernel_rfl) rfl ?_
  intro K1 hK1
  have HK := Lib.hid hK1
  clear hK1 
  go_wp2_with fail
  refine (ref03_Put v.next w1 HI.out.next).mono ?_
  rintro x w2 ⟨v2, rfl, o2, b2⟩
  have O2 := Lib.hid (o2.base_le (base' := w.heap.size + 1) hs1)
  replace O1 := Lib.hid (O1.out.below b2)
  have hs2 := Nat.le_trans hs1 b2.size
  have HX2 := Lib.hid (b2.mono (B' := w.heap.size + 1) hs1)
  replace HB := Lib.hid (HB.out.trans HX2.out)
  clear o2 b2
  go_wp2_with fail
  refine HK.out _ _ (stand_low HX2.out hs1) ?_
  clear HK
  obtain ⟨A2, c2, rfl, _, R2⟩ := O2.out.reads
  have R2 := Lib.hid R2
  refine mix_loudDk rfl (by kernel_rfl) rfl ?_
  intro K1 hK1
  have HK := Lib.hid hK1
  clear hK1 
  go_wp2_with (at_builtin; go_must (refine append_bytes w2 rfl _ _ rfl (w.heap.size + 1) v1 (wputI v.log) rfl O1.out A2 _ c2 (wputI v.next) rfl R2.out (by omega) hs2 ?_); intro v3 w3 O3 G3 _)
  have HS3 := Lib.hid (stand_own (N := w.heap.size + 1) O1.out (Nat.le_refl _) G3)
  replace HB := Lib.hid (Below.grown HB.out G3 hs2 (fun q hq => (O1.out.lt q hq).1))
  have hs3 := Nat.le_trans hs2 G3.size
  have O3 := Lib.hid O3
  clear G3
  refine HK.out _ _ (HS3.out) ?_
  clear HK
  iterate 1 (refine mix_calmDk rfl rfl ?_; go_big_quiet_step (fail); refine wpQuiet_nil ?_)
  refine mix_endDk ?_
  clear O1 O2 R2 HX1 HX2 HS3 hs1 hs2
  have BK3 := BK.drew.below HB.out hg
  have hB3 := (below_drewN hB 1).trans (HB.out.mono (Nat.le_succ _))
  have l2 := wputI_len (n : Int) (by omega)
  have c2' : w3.cell? ⟨w.heap.size, 2, none⟩ = some (.slice A n c) := BK3.cell 2
  clear BK hB HB hs0
  go_wp2_with fail
  refine (ref03_Put (n : Int) w3 (by omega)).mono ?_
  rintro x w4 ⟨v4, rfl, o4, b4⟩
  replace O3 := Lib.hid (O3.out.below b4)
  have O4 := Lib.hid (o4.base_le (base' := w.heap.size + 1) hs3)
  have hs4 := Nat.le_trans hs3 b4.size
  replace BK3 := BK3.below b4 BK3.lt
  replace hB3 := hB3.trans (b4.mono hB3.size)
  clear o4 b4 c2' hs3
  obtain ⟨A4, c4, rfl, _, R4⟩ := O4.out.reads
  have R4 := Lib.hid R4
  go_wp2_with (at_builtin; go_must (refine append_bytes w4 rfl _ _ rfl (w.heap.size + 1) v3 (wputI v.log ++ wputI v.next) rfl O3.out A4 _ c4 (wputI (n : Int)) rfl R4.out (by rw [List.length_append]; omega) hs4 ?_); intro v5 w5 O5 G5 _)
  replace BK3 := BK3.grown G5 (fun e => by have := (O3.out.lt _ e.symm).1; omega)
  replace hB3 := Below.grown hB3 G5 hB3.size (fun q hq => by have := (O3.out.lt _ hq).1; omega)
  have HO5 := Lib.hid O5
  clear O3 O4 R4 O5 G5 hs4
  go_loopw [3, 4] (fun v3 v4 wr => VpRel w w.heap.size v (.slice A n c) 29 v3 v4 wr) (fun _ v4 _ => n - (RowKit.intOf v4).toNat)
  case atStart => exact ⟨0, rfl, Nat.zero_le _, by simpa [vhead, HLL.out] using HO5.out, BK3, hB3, by simp [vhead, HLL.out]; omega⟩
  case round =>
    clear HO5 BK3 hB3
    obtain ⟨k, rfl, hk, O, BK, hB, hlen⟩ := hrel
    rw [HLL.out] at hk
    have HO := Lib.hid O
    have HLEN := Lib.hid hlen
    clear O hlen
    have e2 : wr.cell? ⟨w.heap.size, 2, none⟩ = some (.slice A n c) := BK.cell 2
    by_cases hkn : k < n
    · have hkT : k < v.tabs.length := by have := HLL.out; omega
      obtain ⟨-, b, off, hA, hb, t0, t1⟩ := tab_at (HR.out.below hB) hkT
      subst hA
      have hid := HI.out.tabs v.tabs[k] (List.getElem_mem hkT)
      have htl := tput_len v.tabs[k] hid
      have HF := Lib.hid (take_flat v.tabs k hkT)
      obtain ⟨id, rp, hid2⟩ : ∃ id rp, v.tabs[k] = (id, rp) := ⟨_, _, rfl⟩
      rw [hid2] at t0 t1 hid htl HF
      simp only [] at t0 t1 hid htl
      clear hid2
      have hs0 : w.heap.size + 1 ≤ wr.drew.heap.size := Nat.succ_le_of_lt BK.lt
      have q0 : ∀ p : Kept (· < w.heap.size + 1) wr.drew, p.v.cell? ⟨w.heap.size, 2, none⟩ = some (.slice (some ⟨b, off, none⟩) n c) := fun p => p.h.cell hg (BK.drew.cell 2)
      have q1 : ∀ p : Kept (· < w.heap.size + 1) wr.drew, p.v.cell? ⟨b, off + k * 2, none⟩ = some (.int .i64 id) := fun p => p.h.cell (Nat.lt_succ_of_lt hb) t0
      have q2 : ∀ p : Kept (· < w.heap.size + 1) wr.drew, p.v.cell? ⟨b, off + k * 2 + 1, none⟩ = some (.bool rp) := fun p => p.h.cell (Nat.lt_succ_of_lt hb) t1
      obtain ⟨L, hL⟩ : ∃ L, vhead v ++ (v.tabs.take k).flatMap tput = L := ⟨_, rfl⟩
      have HL := Lib.hid hL
      rw [hL] at HO HLEN
      have hLl : L.length ≤ 27 + 18 * k := HLEN.out
      have hbl := b01_le rp
      have li := wputI_len id hid
      have lf := wputI_len (b01 rp) hbl
      have HB := Lib.hid (Below.refl (w.heap.size + 1) wr.drew)
      clear hL t0 t1
      go_upto_region 6 with fail
      clear e2
      refine wp_region_mixDk (M := []) (· < w.heap.size + 1) [0, 1, 2, 3, 4, 5, 6, 9, 10, 11, 12, 13, 14, 7, 8, 15, 16, 17] (by kernel_rfl) (by kernel_rfl) ?_
      iterate 13 (refine mix_calmDk rfl rfl ?_; go_big_quiet_step (fail); refine wpQuiet_nil ?_)
      refine mix_loudDk rfl (by kernel_rfl) rfl ?_
      intro K1 hK1
      have HK := Lib.hid hK1
      clear hK1 q0 q1 q2
      go_wp2_with fail
      refine (ref03_Put id wr.drew hid).mono ?_
      rintro x w1 ⟨v1, rfl, o1, b1⟩
      replace HO := Lib.hid (show Own w1 _ _ _ from Own.below (w := wr.drew) HO.out b1)
      have O1 := Lib.hid (o1.base_le (base' := w.heap.size + 1) hs0)
      have hs1 := Nat.le_trans hs0 b1.size
      have HX1 := Lib.hid (b1.mono (B' := w.heap.size + 1) hs0)
      replace HB := Lib.hid (HB.out.trans HX1.out)
      clear o1 b1
      go_wp2_with fail
      refine HK.out _ _ (stand_low HX1.out hs0) ?_
      clear HK
      obtain ⟨A1, c1, rfl, _, R1⟩ := O1.out.reads
      have R1 := Lib.hid R1
      refine mix_loudDk rfl (by kernel_rfl) rfl ?_
      intro K1 hK1
      have HK := Lib.hid hK1
      clear hK1 
      go_wp2_with (at_builtin; go_must (refine append_bytes w1 rfl _ _ rfl (w.heap.size + 1) u3 L rfl HO.out A1 _ c1 (wputI id) rfl R1.out (by omega) hs1 ?_); intro v2 w2 O2 G2 _)
      have HS2 := Lib.hid (stand_own (N := w.heap.size + 1) HO.out (Nat.le_refl _) G2)
      replace HB := Lib.hid (Below.grown HB.out G2 hs1 (fun q hq => (HO.out.lt q hq).1))
      have hs2 := Nat.le_trans hs1 G2.size
      have O2 := Lib.hid O2
      clear G2
      refine HK.out _ _ (HS2.out) ?_
      clear HK
      refine mix_loudDk rfl (by kernel_rfl) rfl ?_
      intro K1 hK1
      have HK := Lib.hid hK1
      clear hK1 
      go_wp2_with fail
      refine (ref17_flag rp w2).mono ?_
      rintro x w3 ⟨v3, rfl, o3, b3⟩
      have O3 := Lib.hid (o3.base_le (base' := w.heap.size + 1) hs2)
      replace O2 := Lib.hid (O2.out.below b3)
      have hs3 := Nat.le_trans hs2 b3.size
      have HX3 := Lib.hid (b3.mono (B' := w.heap.size + 1) hs2)
      replace HB := Lib.hid (HB.out.trans HX3.out)
      clear o3 b3
      go_wp2_with fail
      refine HK.out _ _ (stand_low HX3.out hs2) ?_
      clear HK
      obtain ⟨A3, c3, rfl, _, R3⟩ := O3.out.reads
      have R3 := Lib.hid R3
      refine mix_loudDk rfl (by kernel_rfl) rfl ?_
      intro K1 hK1
      have HK := Lib.hid hK1
      clear hK1 
      go_wp2_with (at_builtin; go_must (refine append_bytes w3 rfl _ _ rfl (w.heap.size + 1) v2 (L ++ wputI id) rfl O2.out A3 _ c3 (wputI (b01 rp)) rfl R3.out (by rw [List.length_append]; omega) hs3 ?_); intro v4 w4 O4 G4 _)
      have HS4 := Lib.hid (stand_own (N := w.heap.size + 1) O2.out (Nat.le_refl _) G4)
      replace HB := Lib.hid (Below.grown HB.out G4 hs3 (fun q hq => (O2.out.lt q hq).1))
      have hs4 := Nat.le_trans hs3 G4.size
      have O4 := Lib.hid O4
      clear G4
      refine HK.out _ _ (HS4.out) ?_
      clear HK
      iterate 1 (refine mix_calmDk rfl rfl ?_; go_big_quiet_step (fail); refine wpQuiet_nil ?_)
      refine mix_endDk ?_
      replace BK := BK.drew.below HB.out hg
      replace hB := (below_drewN hB 1).trans (HB.out.mono (Nat.le_succ _))
      have hfin : (L ++ wputI id) ++ wputI (b01 rp) = vhead v ++ (v.tabs.take (k + 1)).flatMap tput := by rw [HF.out, ← List.append_assoc, HL.out]; simp [tput]
      rw [hfin] at O4
      have hfl : (vhead v ++ (v.tabs.take (k + 1)).flatMap tput).length ≤ 27 + 18 * (k + 1) := by
        rw [HF.out, ← List.append_assoc, List.length_append, HL.out]
        omega
      have HFL := Lib.hid hfl
      clear hfin hfl
      go_wp2_with fail
      go_roundw
      case rel => exact ⟨k + 1, by go_num, by rw [HLL.out]; omega, O4.out, BK, hB, HFL.out⟩
      case measure => simp [RowKit.intOf]; omega
    · have hkn : k = n := by omega
      subst hkn
      rw [List.take_of_length_le (by rw [HLL.out]; exact Nat.le_refl _)] at HO HLEN
      have hs0 : w.heap.size + 1 ≤ wr.drew.heap.size := Nat.succ_le_of_lt BK.lt
      have q3 : ∀ p : Kept (· < w.heap.size + 1) wr.drew, p.v.cell? ⟨w.heap.size, 3, none⟩ = some (.int .i64 v.fl.1) := fun p => p.h.cell hg (BK.drew.cell 3)
      have q4 : ∀ p : Kept (· < w.heap.size + 1) wr.drew, p.v.cell? ⟨w.heap.size, 4, none⟩ = some (.int .i64 v.fl.2.1) := fun p => p.h.cell hg (BK.drew.cell 4)
      have q5 : ∀ p : Kept (· < w.heap.size + 1) wr.drew, p.v.cell? ⟨w.heap.size, 5, none⟩ = some (.int .i64 v.fl.2.2) := fun p => p.h.cell hg (BK.drew.cell 5)
      have q6 : ∀ p : Kept (· < w.heap.size + 1) wr.drew, p.v.cell? ⟨w.heap.size, 6, none⟩ = some (.int .i64 v.fe.1) := fun p => p.h.cell hg (BK.drew.cell 6)
      have q7 : ∀ p : Kept (· < w.heap.size + 1) wr.drew, p.v.cell? ⟨w.heap.size, 7, none⟩ = some (.int .i64 v.fe.2.1) := fun p => p.h.cell hg (BK.drew.cell 7)
      have q8 : ∀ p : Kept (· < w.heap.size + 1) wr.drew, p.v.cell? ⟨w.heap.size, 8, none⟩ = some (.int .i64 v.fe.2.2) := fun p => p.h.cell hg (BK.drew.cell 8)
      have q9 : ∀ p : Kept (· < w.heap.size + 1) wr.drew, p.v.cell? ⟨w.heap.size, 9, none⟩ = some (.int .i64 v.se.1) := fun p => p.h.cell hg (BK.drew.cell 9)
      have q10 : ∀ p : Kept (· < w.heap.size + 1) wr.drew, p.v.cell? ⟨w.heap.size, 10, none⟩ = some (.int .i64 v.se.2.1) := fun p => p.h.cell hg (BK.drew.cell 10)
      have q11 : ∀ p : Kept (· < w.heap.size + 1) wr.drew, p.v.cell? ⟨w.heap.size, 11, none⟩ = some (.int .i64 v.se.2.2) := fun p => p.h.cell hg (BK.drew.cell 11)
      obtain ⟨L, hL⟩ : ∃ L, vhead v ++ v.tabs.flatMap tput = L := ⟨_, rfl⟩
      have HLX := Lib.hid (show vput v = (((L ++ sput v.fl) ++ sput v.fe) ++ sput v.se) ++ wputI (b01 v.quar) by rw [← hL]; rfl)
      rw [hL] at HO HLEN
      have hLl : L.length ≤ 27 + 18 * k := HLEN.out
      have s1 := sput_len v.fl HI.out.fl.1 HI.out.fl.2.1 HI.out.fl.2.2
      have s1' : (sput (v.fl.1, v.fl.2.1, v.fl.2.2)).length ≤ 27 := s1
      have s2 := sput_len v.fe HI.out.fe.1 HI.out.fe.2.1 HI.out.fe.2.2
      have s2' : (sput (v.fe.1, v.fe.2.1, v.fe.2.2)).length ≤ 27 := s2
      have s3 := sput_len v.se HI.out.se.1 HI.out.se.2.1 HI.out.se.2.2
      have s3' : (sput (v.se.1, v.se.2.1, v.se.2.2)).length ≤ 27 := s3
      have HB := Lib.hid (Below.refl (w.heap.size + 1) wr.drew)
      clear hL
      go_upto_region 7 with fail
      clear e2
      refine wp_region_mixDk (M := []) (· < w.heap.size + 1) [0, 1, 2, 5, 6, 9, 10, 3, 4, 7, 8, 11, 12, 13] (by kernel_rfl) (by kernel_rfl) ?_
      iterate 7 (refine mix_calmDk rfl rfl ?_; go_big_quiet_step (fail); refine wpQuiet_nil ?_)
      refine mix_loudDk rfl (by kernel_rfl) rfl ?_
      intro K1 hK1
      have HK := Lib.hid hK1
      clear hK1 q3 q4 q5 q6 q7 q8 q9 q10 q11
      go_wp2_with fail
      refine (ref07_Stamp v.fl.1 v.fl.2.1 v.fl.2.2 HI.out.fl.1 HI.out.fl.2.1 HI.out.fl.2.2 wr.drew).mono ?_
      rintro x w1 ⟨v1, rfl, o1, b1⟩
      replace HO := Lib.hid (show Own w1 _ _ _ from Own.below (w := wr.drew) HO.out b1)
      have O1 := Lib.hid (o1.base_le (base' := w.heap.size + 1) hs0)
      have hs1 := Nat.le_trans hs0 b1.size
      have HX1 := Lib.hid (b1.mono (B' := w.heap.size + 1) hs0)
      replace HB := Lib.hid (HB.out.trans HX1.out)
      clear o1 b1
      go_wp2_with fail
      refine HK.out _ _ (stand_low HX1.out hs0) ?_
      clear HK
      obtain ⟨A1, c1, rfl, _, R1⟩ := O1.out.reads
      have R1 := Lib.hid R1
      refine mix_loudDk rfl (by kernel_rfl) rfl ?_
      intro K1 hK1
      have HK := Lib.hid hK1
      clear hK1 
      go_wp2_with (at_builtin; go_must (refine append_bytes w1 rfl _ _ rfl (w.heap.size + 1) u3 L rfl HO.out A1 _ c1 (sput v.fl) rfl R1.out (by omega) hs1 ?_); intro v2 w2 O2 G2 _)
      have HS2 := Lib.hid (stand_own (N := w.heap.size + 1) HO.out (Nat.le_refl _) G2)
      replace HB := Lib.hid (Below.grown HB.out G2 hs1 (fun q hq => (HO.out.lt q hq).1))
      have hs2 := Nat.le_trans hs1 G2.size
      have O2 := Lib.hid O2
      clear G2
      refine HK.out _ _ (HS2.out) ?_
      clear HK
      refine mix_loudDk rfl (by kernel_rfl) rfl ?_
      intro K1 hK1
      have HK := Lib.hid hK1
      clear hK1 
      go_wp2_with fail
      refine (ref07_Stamp v.fe.1 v.fe.2.1 v.fe.2.2 HI.out.fe.1 HI.out.fe.2.1 HI.out.fe.2.2 w2).mono ?_
      rintro x w3 ⟨v3, rfl, o3, b3⟩
      have O3 := Lib.hid (o3.base_le (base' := w.heap.size + 1) hs2)
      replace O2 := Lib.hid (O2.out.below b3)
      have hs3 := Nat.le_trans hs2 b3.size
      have HX3 := Lib.hid (b3.mono (B' := w.heap.size + 1) hs2)
      replace HB := Lib.hid (HB.out.trans HX3.out)
      clear o3 b3
      go_wp2_with fail
      refine HK.out _ _ (stand_low HX3.out hs2) ?_
      clear HK
      obtain ⟨A3, c3, rfl, _, R3⟩ := O3.out.reads
      have R3 := Lib.hid R3
      refine mix_loudDk rfl (by kernel_rfl) rfl ?_
      intro K1 hK1
      have HK := Lib.hid hK1
      clear hK1 
      go_wp2_with (at_builtin; go_must (refine append_bytes w3 rfl _ _ rfl (w.heap.size + 1) v2 (L ++ sput v.fl) rfl O2.out A3 _ c3 (sput v.fe) rfl R3.out (by (repeat rw [List.length_append]); omega) hs3 ?_); intro v4 w4 O4 G4 _)
      have HS4 := Lib.hid (stand_own (N := w.heap.size + 1) O2.out (Nat.le_refl _) G4)
      replace HB := Lib.hid (Below.grown HB.out G4 hs3 (fun q hq => (O2.out.lt q hq).1))
      have hs4 := Nat.le_trans hs3 G4.size
      have O4 := Lib.hid O4
      clear G4
      refine HK.out _ _ (HS4.out) ?_
      clear HK
      refine mix_loudDk rfl (by kernel_rfl) rfl ?_
      intro K1 hK1
      have HK := Lib.hid hK1
      clear hK1 
      go_wp2_with fail
      refine (ref07_Stamp v.se.1 v.se.2.1 v.se.2.2 HI.out.se.1 HI.out.se.2.1 HI.out.se.2.2 w4).mono ?_
      rintro x w5 ⟨v5, rfl, o5, b5⟩
      have O5 := Lib.hid (o5.base_le (base' := w.heap.size + 1) hs4)
      replace O4 := Lib.hid (O4.out.below b5)
      have hs5 := Nat.le_trans hs4 b5.size
      have HX5 := Lib.hid (b5.mono (B' := w.heap.size + 1) hs4)
      replace HB := Lib.hid (HB.out.trans HX5.out)
      clear o5 b5
      go_wp2_with fail
      refine HK.out _ _ (stand_low HX5.out hs4) ?_
      clear HK
      obtain ⟨A5, c5, rfl, _, R5⟩ := O5.out.reads
      have R5 := Lib.hid R5
      refine mix_loudDk rfl (by kernel_rfl) rfl ?_
      intro K1 hK1
      have HK := Lib.hid hK1
      clear hK1 
      go_wp2_with (at_builtin; go_must (refine append_bytes w5 rfl _ _ rfl (w.heap.size + 1) v4 ((L ++ sput v.fl) ++ sput v.fe) rfl O4.out A5 _ c5 (sput v.se) rfl R5.out (by (repeat rw [List.length_append]); omega) hs5 ?_); intro v6 w6 O6 G6 _)
      have HS6 := Lib.hid (stand_own (N := w.heap.size + 1) O4.out (Nat.le_refl _) G6)
      replace HB := Lib.hid (Below.grown HB.out G6 hs5 (fun q hq => (O4.out.lt q hq).1))
      have hs6 := Nat.le_trans hs5 G6.size
      have O6 := Lib.hid O6
      clear G6
      refine HK.out _ _ (HS6.out) ?_
      clear HK
      iterate 1 (refine mix_calmDk rfl rfl ?_; go_big_quiet_step (fail); refine wpQuiet_nil ?_)
      refine mix_endDk ?_
      replace BK := BK.drew.below HB.out hg
      replace hB := (below_drewN hB 1).trans (HB.out.mono (Nat.le_succ _))
      have f9 : w6.cell? ⟨w.heap.size, 12, none⟩ = some (.bool v.quar) := BK.cell 12
      have hq := b01_le v.quar
      have lq := wputI_len (b01 v.quar) hq
      clear O2 O4 O1 O3 O5 R1 R3 R5 HX1 HX3 HX5 HS2 HS4 HS6 HO hs0 hs1 hs2 hs3 hs4 hs5
      go_wp2_with fail
      refine (ref17_flag v.quar w6).mono ?_
      rintro x w7 ⟨v7, rfl, o7, b7⟩
      replace O6 := Lib.hid (O6.out.below b7)
      have O7 := Lib.hid (o7.base_le (base' := w.heap.size + 1) hs6)
      have hs7 := Nat.le_trans hs6 b7.size
      replace hB := hB.trans (b7.mono hB.size)
      clear o7 b7 f9
      obtain ⟨A7, c7, rfl, _, R7⟩ := O7.out.reads
      have R7 := Lib.hid R7
      go_wp2_with (at_builtin; go_must (refine append_bytes w7 rfl _ _ rfl (w.heap.size + 1) v6 (((L ++ sput v.fl) ++ sput v.fe) ++ sput v.se) rfl O6.out A7 _ c7 (wputI (b01 v.quar)) rfl R7.out (by (repeat rw [List.length_append]); omega) hs7 ?_); intro v8 w8 O8 G8 _)
      replace hB := Below.grown hB G8 hB.size (fun q hq => by have := (O6.out.lt _ hq).1; omega)
      go_ret
      exact ⟨v8, rfl, by rw [HLX.out]; exact O8.base_le (Nat.le_succ _), hB⟩
end Go.Proofs.Ytedegdojbhegdaa
