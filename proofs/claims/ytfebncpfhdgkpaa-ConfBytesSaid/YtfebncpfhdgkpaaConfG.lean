/- Contract of conf.Get. The bytes are at most 2^47. -/
import Derived.Test.YtfebncpfhdgkpaaConfI
import Derived.Test.YtfebncpfhdgkpaaRdrC
namespace Go.Proofs.Ytfebncpfhdgkpaa
open Go.RowKit Go.Sort

def z5 : List (Bool × Int) := [(false, 0), (false, 0), (false, 0), (false, 0), (false, 0)]
/-- What a Get hands back. -/
def cgV (r : Int × List (Bool × Int) × Int) : Value := if r.2.2 = 0 then .tuple #[.agg (cfC r.1 r.2.1).toArray, .int .i64 0] else .tuple #[.agg (cfC 0 z5).toArray, .int .i64 r.2.2]

def CgRel (w : World) (g0 g1 g2 : Nat) (A : Option Addr) (n c : Nat) (L : List UInt8) (e : Int) (k0 : Nat) (why0 : Int) (v13 : Value) (wr : World) : Prop :=
  ∃ (i k : Nat) (why : Int) (D : List (Bool × Int)), v13 = .int .i64 i ∧ i ≤ 5 ∧ D.length = i ∧ Blk wr g2 37 (cfC e (D ++ z5.drop i)).toArray ∧ Rd wr g1 A n c L k why ∧ Blk wr g0 37 (cfC 0 z5).toArray ∧ Below w.heap.size w wr ∧
    cg 5 L k0 why0 = (D ++ (cg (5 - i) L k why).1, (cg (5 - i) L k why).2)

theorem z5_step (D : List (Bool × Int)) (i : Nat) (hi : i < 5) (hD : D.length = i) (o : Bool) (v : Int) : ((D ++ z5.drop i).set i (o, v)) = (D ++ [(o, v)]) ++ z5.drop (i + 1) := by
  rw [List.set_append_right _ _ (by omega), hD, Nat.sub_self]
  match i, hi with
  | 0, _ => simp [z5]
  | 1, _ => simp [z5]
  | 2, _ => simp [z5]
  | 3, _ => simp [z5]
  | 4, _ => simp [z5]
theorem z5_len (D : List (Bool × Int)) (i : Nat) (hi : i ≤ 5) (hD : D.length = i) : (D ++ z5.drop i).length = 5 := by simp [z5, hD]; omega

theorem cgAll_eq {L : List UInt8} {v m k : Nat} {e0 why : Int} {D : List (Bool × Int)} (hq : rNum L 0 = (v, m, e0)) (hcg : cg 5 L m e0 = (D, k, why)) :
    (why = 0 → CRt v D → cgAll L = ((v : Int), D, rEnd (L.length - k) 0)) ∧ (why = 0 → ¬ CRt v D → cgAll L = ((v : Int), D, 31)) ∧ (why ≠ 0 → cgAll L = ((v : Int), D, why)) := by
  unfold cgAll rEnd
  rw [hq]
  simp only
  rw [hcg]
  simp only
  refine ⟨fun hw hR => ?_, fun hw hR => ?_, fun hw => ?_⟩
  · subst hw
    rw [if_neg (show ¬ ((0 : Int) = 0 ∧ ¬ ((0 ≤ (v : Int) ∧ (v : Int) ≤ 1099511627776) ∧ ∀ p ∈ D, 0 ≤ p.2 ∧ p.2 ≤ (v : Int))) from fun h => h.2 hR)]
    simp
  · subst hw
    rw [if_pos (show ((0 : Int) = 0 ∧ ¬ ((0 ≤ (v : Int) ∧ (v : Int) ≤ 1099511627776) ∧ ∀ p ∈ D, 0 ≤ p.2 ∧ p.2 ≤ (v : Int))) from ⟨rfl, hR⟩), if_neg (by omega)]
  · rw [if_neg (show ¬ (why = 0 ∧ ¬ ((0 ≤ (v : Int) ∧ (v : Int) ≤ 1099511627776) ∧ ∀ p ∈ D, 0 ≤ p.2 ∧ p.2 ≤ (v : Int))) from fun h => hw h.1), if_neg (by omega)]
theorem cgV_err {v : Int} {D : List (Bool × Int)} {e : Int} (h : e ≠ 0) : cgV (v, D, e) = .tuple #[.agg #[.int .i64 0, .bool false, .bool false, .bool false, .bool false, .bool false, .int .i64 0, .int .i64 0, .int .i64 0, .int .i64 0, .int .i64 0], .int .i64 e] := by
  unfold cgV
  rw [if_neg h]
  rfl
theorem cgV_ok (v : Int) (o0 o1 o2 o3 o4 : Bool) (j0 j1 j2 j3 j4 : Int) : cgV (v, [(o0, j0), (o1, j1), (o2, j2), (o3, j3), (o4, j4)], 0) = .tuple #[.agg #[.int .i64 v, .bool o0, .bool o1, .bool o2, .bool o3, .bool o4, .int .i64 j0, .int .i64 j1, .int .i64 j2, .int .i64 j3, .int .i64 j4], .int .i64 0] := rfl

set_option maxRecDepth 100000 in
set_option maxHeartbeats 4000000 in
theorem conf_Get (A : Option Addr) (n c : Nat) (L : List UInt8) (w : World) (hr : Reads w w.heap.size 1 A n (L.map vb)) (hnc : n ≤ c) (hn : n ≤ 140737488355400) :
    Calls Try.prog 56 #[.slice A n c] w fun x w' => x = .returned (cgV (cgAll L)) ∧ Below w.heap.size w w' := by
  have HR := Lib.hid hr
  have hll := hr.len
  have HLL := Lib.hid hll
  clear hr hll
  go_enter Try.func56, Try.ntmps56
  go_wp2_with fail
  have B0 := Blk.new w 37 (cfC 0 z5).toArray
  have hB : Below w.heap.size w (w.alloc (.cells (cfC 0 z5).toArray 37)) := (Below.refl _ _).alloc (Nat.le_refl _) _
  have hs0 : (w.alloc (.cells (cfC 0 z5).toArray 37)).heap.size = w.heap.size + 1 := by simp
  change Calls _ _ _ (w.alloc (.cells (cfC 0 z5).toArray 37)) _
  generalize w.alloc (.cells (cfC 0 z5).toArray 37) = W0 at *
  refine (wire_New A n c W0).mono ?_
  rintro x w1 ⟨rfl, rfl⟩
  have RD : Rd (W0.alloc (.cells #[.slice A n c, .int .i64 0, .int .i64 0] 114)) W0.heap.size A n c L 0 0 := ⟨Blk.new _ _ _, ((HR.out.below hB).more hB.size).alloc (Nat.le_refl _) _, Nat.zero_le _, hn, hnc⟩
  replace B0 := B0.alloc (.cells #[.slice A n c, .int .i64 0, .int .i64 0] 114)
  replace hB := hB.alloc hB.size (.cells #[.slice A n c, .int .i64 0, .int .i64 0] 114)
  generalize W0.alloc (.cells #[.slice A n c, .int .i64 0, .int .i64 0] 114) = W1 at *
  rw [hs0] at RD ⊢
  clear hs0
  have hN := Lib.hid (reader_Num W1 (w.heap.size + 1) A n c L 0 0 RD)
  obtain ⟨v, m, e0, hq⟩ : ∃ v m e0, rNum L 0 = (v, m, e0) := ⟨_, _, _, rfl⟩
  have HQ := Lib.hid hq
  rw [List.drop_zero, hq] at hN
  simp only [Nat.zero_add] at hN
  clear RD hq
  go_wp2_with fail
  refine hN.out.mono ?_
  rintro x w2 ⟨rfl, R2, g2⟩
  replace B0 := B0.grown g2 (by simp)
  replace hB := Below.grown hB g2 hB.size (fun q hq => by injection hq with hq; omega)
  clear hN g2
  go_wp2_with fail
  have BX := Blk.new w2 37 (cfC v z5).toArray
  have hlt0 := B0.lt
  have hlt1 := R2.blk.lt
  replace B0 := B0.alloc (.cells (cfC v z5).toArray 37)
  replace R2 := R2.alloc (.cells (cfC v z5).toArray 37)
  replace hB := hB.alloc hB.size (.cells (cfC v z5).toArray 37)
  change Code.wp _ _ _ _ (w2.alloc (.cells (cfC v z5).toArray 37))
  generalize w2.alloc (.cells (cfC v z5).toArray 37) = W2 at *
  generalize w2.heap.size = gx at *
  go_loopw [13] (fun v13 wr => CgRel w w.heap.size (w.heap.size + 1) gx A n c L v m e0 v13 wr) (fun v13 _ => 5 - (intOf v13).toNat)
  case atStart => exact ⟨0, m, e0, [], rfl, by omega, rfl, BX, R2, B0, hB, by simp⟩
  case round =>
    clear BX R2 B0 hB
    obtain ⟨i, k, why, D, rfl, hi, hD, BX, R, B0, hB, hcg⟩ := hrel
    have HD := Lib.hid hD
    have HCG := Lib.hid hcg
    clear hD hcg
    by_cases hi5 : i < 5
    · obtain ⟨a, ma, ea, ha⟩ : ∃ a ma ea, rCount (L.drop k) 1 why = (a, ma, ea) := ⟨_, _, _, rfl⟩
      obtain ⟨b, mb, eb, hb⟩ : ∃ b mb eb, rNum (L.drop (k + ma)) ea = (b, mb, eb) := ⟨_, _, _, rfl⟩
      have hstep : cg 5 L m e0 = ((D ++ [(decide (a = 1), (b : Int))]) ++ (cg (5 - (i + 1)) L (k + ma + mb) eb).1, (cg (5 - (i + 1)) L (k + ma + mb) eb).2) := by
        rw [HCG.out, show 5 - i = (5 - (i + 1)) + 1 by omega, cg_succ _ L k why ha hb]
        simp
      have HSt := Lib.hid hstep
      have hC := Lib.hid (reader_Count wr (w.heap.size + 1) A n c L k why 1 R)
      rw [ha] at hC
      simp only at hC
      have hL5 := Lib.hid (z5_len D i hi HD.out)
      have HA := Lib.hid ha
      have HBb := Lib.hid hb
      clear hstep ha hb
      go_wp2_with fail
      refine hC.out.mono ?_
      rintro x w3 ⟨rfl, R3, g3⟩
      replace BX := BX.grown g3 (by simp; omega)
      replace B0 := B0.grown g3 (by simp)
      replace hB := Below.grown hB g3 hB.size (fun q hq => by injection hq with hq; omega)
      clear hC g3 R
      have c1 : w3.cell? ⟨gx, 1 + i, none⟩ = some (.bool ((D ++ z5.drop i)[i]'(by rw [hL5.out]; exact hi5)).1) := by rw [BX.cell]; simpa using cfC_out v (D ++ z5.drop i) i (by rw [hL5.out]; exact hi5)
      have f1 := BX.frozen (1 + i)
      have hab : ((a : Int) == 1) = decide (a = 1) := by rw [Bool.eq_iff_iff]; simp; omega
      have HAB := Lib.hid hab
      clear hab
      go_upto_region 7 with fail
      rw [HAB.out]
      have BX1 := BX.set_ (1 + i) (.bool (decide (a = 1)))
      rw [cfC_set_out v (D ++ z5.drop i) hL5.out i (by rw [hL5.out]; exact hi5)] at BX1
      have B01 := B0.far (p := ⟨gx, 1 + i, none⟩) (by simp; omega) (.bool (decide (a = 1)))
      have hB1 := hB.setCell (p := ⟨gx, 1 + i, none⟩) (by simp; omega) (.bool (decide (a = 1)))
      have R31 : Rd (w3.setCell ⟨gx, 1 + i, none⟩ (.bool (decide (a = 1)))) (w.heap.size + 1) A n c L (k + ma) ea := ⟨R3.blk.far (by simp; omega) _, R3.rds.setCell (by simp; omega) _, R3.kn, R3.nm, R3.nc⟩
      clear BX B0 hB R3 c1 f1
      generalize w3.setCell ⟨gx, 1 + i, none⟩ (.bool (decide (a = 1))) = W3 at *
      have hNb := Lib.hid (reader_Num W3 (w.heap.size + 1) A n c L (k + ma) ea R31)
      rw [HBb.out] at hNb
      simp only at hNb
      go_wp2_with fail
      refine hNb.out.mono ?_
      rintro x w4 ⟨rfl, R4, g4⟩
      replace BX1 := BX1.grown g4 (by simp; omega)
      replace B01 := B01.grown g4 (by simp)
      replace hB1 := Below.grown hB1 g4 hB1.size (fun q hq => by injection hq with hq; omega)
      clear hNb g4 R31
      have hP5 : ((D ++ z5.drop i).set i (decide (a = 1), ((D ++ z5.drop i)[i]'(by rw [hL5.out]; exact hi5)).2)).length = 5 := by rw [List.length_set]; exact hL5.out
      have c1 : w4.cell? ⟨gx, 6 + i, none⟩ = some (.int .i64 (((D ++ z5.drop i).set i (decide (a = 1), ((D ++ z5.drop i)[i]'(by rw [hL5.out]; exact hi5)).2))[i]'(by rw [hP5]; exact hi5)).2) := by rw [BX1.cell, List.getElem?_toArray]; exact cfC_join v _ hP5 i (by rw [hP5]; exact hi5)
      have f1 := BX1.frozen (6 + i)
      have BX2 := BX1.set_ (6 + i) (.int .i64 (b : Int))
      rw [cfC_set_join v _ hP5 i (by rw [hP5]; exact hi5), List.getElem_set_self, List.set_set, z5_step D i hi5 HD.out] at BX2
      have HBX := Lib.hid BX2
      clear BX2
      go_wp2_with fail
      have B02 := B01.far (p := ⟨gx, 6 + i, none⟩) (by simp; omega) (.int .i64 (b : Int))
      have hB2 := hB1.setCell (p := ⟨gx, 6 + i, none⟩) (by simp; omega) (.int .i64 (b : Int))
      have R42 : Rd (w4.setCell ⟨gx, 6 + i, none⟩ (.int .i64 (b : Int))) (w.heap.size + 1) A n c L (k + ma + mb) eb := ⟨R4.blk.far (by simp; omega) _, R4.rds.setCell (by simp; omega) _, R4.kn, R4.nm, R4.nc⟩
      go_roundw
      case rel => exact ⟨i + 1, k + ma + mb, eb, D ++ [(decide (a = 1), (b : Int))], by go_num, by omega, by simp [HD.out], HBX.out, R42, B02, hB2, HSt.out⟩
      case measure => simp [intOf]; omega
    · have hie : i = 5 := by omega
      subst hie
      rw [show z5.drop 5 = [] from rfl, List.append_nil] at BX
      have hcg := HCG.out
      rw [Nat.sub_self] at hcg
      simp only [cg, List.append_nil] at hcg
      obtain ⟨a1, a2, a3⟩ := cgAll_eq HQ.out hcg
      rw [HLL.out] at a1
      have H1 := Lib.hid a1
      have H2 := Lib.hid a2
      have H3 := Lib.hid a3
      replace B0 : Blk wr w.heap.size 37 #[.int .i64 0, .bool false, .bool false, .bool false, .bool false, .bool false, .int .i64 0, .int .i64 0, .int .i64 0, .int .i64 0, .int .i64 0] := B0
      have hlg := BX.lt
      clear a1 a2 a3 hcg HCG
      have hcr := fun (h : CRt v D) W => conf_Right_yes v D HD.out h W
      have hcn := fun (h : ¬ CRt v D) W => conf_Right_no v D HD.out h W
      have HCR := Lib.hid hcr
      have HCN := Lib.hid hcn
      clear hcr hcn
      obtain ⟨o0, o1, o2, o3, o4, j0, j1, j2, j3, j4, hDe⟩ := five_pairs D HD.out
      subst hDe
      replace BX : Blk wr gx 37 #[.int .i64 (v : Int), .bool o0, .bool o1, .bool o2, .bool o3, .bool o4, .int .i64 j0, .int .i64 j1, .int .i64 j2, .int .i64 j3, .int .i64 j4] := BX
      by_cases hw : why = 0
      · subst hw
        have hcx := BX.cell
        go_wp2_with fail
        refine (reader_Why _ (w.heap.size + 1) A n c L k 0 R).mono ?_
        rintro x w5 ⟨rfl, rfl⟩
        by_cases hR : CRt v [(o0, j0), (o1, j1), (o2, j2), (o3, j3), (o4, j4)]
        · have hY := HCR.out hR
          have HA1 := Lib.hid (H1.out (by first | rfl | trivial) hR)
          have HY := Lib.hid hY
          clear hR hY
          go_wp2_with fail
          refine (HY.out wr).mono ?_
          rintro x w5 ⟨rfl, b5⟩
          replace R := R.below b5
          replace B0 := B0.below b5 B0.lt
          replace BX := BX.below b5 BX.lt
          replace hB := hB.trans (b5.mono hB.size)
          clear b5 hcx HY
          go_wp2_with fail
          have hEn := Lib.hid (reader_End w5 (w.heap.size + 1) A n c L k 0 R)
          refine hEn.out.mono ?_
          rintro x w6 ⟨rfl, R6, g6⟩
          replace B0 := B0.grown g6 (by simp)
          replace BX := BX.grown g6 (by simp; omega)
          replace hB := Below.grown hB g6 hB.size (fun q hq => by injection hq with hq; omega)
          clear g6 hEn R
          by_cases hl : 0 < n - k
          · have he9 : rEnd (n - k) 0 = 31 := by unfold rEnd; rw [if_pos ⟨hl, rfl⟩]
            rw [he9] at HA1 ⊢
            clear hl he9
            have f0 := B0.frozen
            have c0 := B0.cell
            have zz := (((((((((((B0.set_ 0 (.int .i64 0)).set_ 1 (.bool false)).set_ 2 (.bool false)).set_ 3 (.bool false)).set_ 4 (.bool false)).set_ 5 (.bool false)).set_ 6 (.int .i64 0)).set_ 7 (.int .i64 0)).set_ 8 (.int .i64 0)).set_ 9 (.int .i64 0)).set_ 10 (.int .i64 0)).cell
            simp at zz
            go_wp2_with fail
            (try simp only [Exit.inBlock, Exit.then])
            refine bodyPost_ret (v := .tuple #[.agg #[.int .i64 0, .bool false, .bool false, .bool false, .bool false, .bool false, .int .i64 0, .int .i64 0, .int .i64 0, .int .i64 0, .int .i64 0], .int .i64 31]) (by simp [results, Try.results56, go_sem, zz]) rfl ⟨by rw [HA1.out, cgV_err (by decide)], ?_⟩
            exact (((((((((((hB.setCell (p := ⟨w.heap.size, 0, none⟩) (by simp) _).setCell (p := ⟨w.heap.size, 1, none⟩) (by simp) _).setCell (p := ⟨w.heap.size, 2, none⟩) (by simp) _).setCell (p := ⟨w.heap.size, 3, none⟩) (by simp) _).setCell (p := ⟨w.heap.size, 4, none⟩) (by simp) _).setCell (p := ⟨w.heap.size, 5, none⟩) (by simp) _).setCell (p := ⟨w.heap.size, 6, none⟩) (by simp) _).setCell (p := ⟨w.heap.size, 7, none⟩) (by simp) _).setCell (p := ⟨w.heap.size, 8, none⟩) (by simp) _).setCell (p := ⟨w.heap.size, 9, none⟩) (by simp) _).setCell (p := ⟨w.heap.size, 10, none⟩) (by simp) _)
          · have he9 : rEnd (n - k) 0 = 0 := by unfold rEnd; rw [if_neg (fun h => hl h.1)]
            rw [he9] at HA1 ⊢
            have hcx := BX.cell
            clear hl he9
            have f0 := B0.frozen
            have c0 := B0.cell
            have zz := (((((((((((B0.set_ 0 (.int .i64 (v : Int))).set_ 1 (.bool o0)).set_ 2 (.bool o1)).set_ 3 (.bool o2)).set_ 4 (.bool o3)).set_ 5 (.bool o4)).set_ 6 (.int .i64 j0)).set_ 7 (.int .i64 j1)).set_ 8 (.int .i64 j2)).set_ 9 (.int .i64 j3)).set_ 10 (.int .i64 j4)).cell
            simp at zz
            go_wp2_with fail
            (try simp only [Exit.inBlock, Exit.then])
            refine bodyPost_ret (v := .tuple #[.agg #[.int .i64 (v : Int), .bool o0, .bool o1, .bool o2, .bool o3, .bool o4, .int .i64 j0, .int .i64 j1, .int .i64 j2, .int .i64 j3, .int .i64 j4], .int .i64 0]) (by simp [results, Try.results56, go_sem, zz]) rfl ⟨by rw [HA1.out, cgV_ok], ?_⟩
            exact (((((((((((hB.setCell (p := ⟨w.heap.size, 0, none⟩) (by simp) _).setCell (p := ⟨w.heap.size, 1, none⟩) (by simp) _).setCell (p := ⟨w.heap.size, 2, none⟩) (by simp) _).setCell (p := ⟨w.heap.size, 3, none⟩) (by simp) _).setCell (p := ⟨w.heap.size, 4, none⟩) (by simp) _).setCell (p := ⟨w.heap.size, 5, none⟩) (by simp) _).setCell (p := ⟨w.heap.size, 6, none⟩) (by simp) _).setCell (p := ⟨w.heap.size, 7, none⟩) (by simp) _).setCell (p := ⟨w.heap.size, 8, none⟩) (by simp) _).setCell (p := ⟨w.heap.size, 9, none⟩) (by simp) _).setCell (p := ⟨w.heap.size, 10, none⟩) (by simp) _)
        · have HY := Lib.hid (HCN.out hR)
          have HA2 := Lib.hid (H2.out (by first | rfl | trivial) hR)
          clear hR
          go_wp2_with fail
          refine (HY.out wr).mono ?_
          rintro x w5 ⟨rfl, b5⟩
          replace R := R.below b5
          replace B0 := B0.below b5 B0.lt
          replace hB := hB.trans (b5.mono hB.size)
          clear b5 hcx HY BX
          go_wp2_with fail
          refine (reader_Fail _ (w.heap.size + 1) A n c L k 0 31 R).mono ?_
          rintro x w6 ⟨rfl, rfl⟩
          rw [if_pos rfl]
          replace R := R.fail 31
          replace B0 := B0.far (p := ⟨w.heap.size + 1, 2, none⟩) (by simp) (.int .i64 31)
          replace hB := hB.setCell (p := ⟨w.heap.size + 1, 2, none⟩) (by simp) (.int .i64 31)
          generalize w5.setCell ⟨w.heap.size + 1, 2, none⟩ (.int .i64 31) = W5 at *
          have hEn := Lib.hid (reader_End W5 (w.heap.size + 1) A n c L k 31 R)
          rw [show rEnd (n - k) 31 = 31 by unfold rEnd; rw [if_neg (by omega)]] at hEn
          go_wp2_with fail
          refine hEn.out.mono ?_
          rintro x w6 ⟨rfl, R6, g6⟩
          replace B0 := B0.grown g6 (by simp)
          replace hB := Below.grown hB g6 hB.size (fun q hq => by injection hq with hq; omega)
          clear g6 hEn R
          have f0 := B0.frozen
          have c0 := B0.cell
          have zz := (((((((((((B0.set_ 0 (.int .i64 0)).set_ 1 (.bool false)).set_ 2 (.bool false)).set_ 3 (.bool false)).set_ 4 (.bool false)).set_ 5 (.bool false)).set_ 6 (.int .i64 0)).set_ 7 (.int .i64 0)).set_ 8 (.int .i64 0)).set_ 9 (.int .i64 0)).set_ 10 (.int .i64 0)).cell
          simp at zz
          go_wp2_with fail
          (try simp only [Exit.inBlock, Exit.then])
          refine bodyPost_ret (v := .tuple #[.agg #[.int .i64 0, .bool false, .bool false, .bool false, .bool false, .bool false, .int .i64 0, .int .i64 0, .int .i64 0, .int .i64 0, .int .i64 0], .int .i64 31]) (by simp [results, Try.results56, go_sem, zz]) rfl ⟨by rw [HA2.out, cgV_err (by decide)], ?_⟩
          exact (((((((((((hB.setCell (p := ⟨w.heap.size, 0, none⟩) (by simp) _).setCell (p := ⟨w.heap.size, 1, none⟩) (by simp) _).setCell (p := ⟨w.heap.size, 2, none⟩) (by simp) _).setCell (p := ⟨w.heap.size, 3, none⟩) (by simp) _).setCell (p := ⟨w.heap.size, 4, none⟩) (by simp) _).setCell (p := ⟨w.heap.size, 5, none⟩) (by simp) _).setCell (p := ⟨w.heap.size, 6, none⟩) (by simp) _).setCell (p := ⟨w.heap.size, 7, none⟩) (by simp) _).setCell (p := ⟨w.heap.size, 8, none⟩) (by simp) _).setCell (p := ⟨w.heap.size, 9, none⟩) (by simp) _).setCell (p := ⟨w.heap.size, 10, none⟩) (by simp) _)
      · have HA3 := Lib.hid (H3.out hw)
        have hwe : (why == 0) = false := by simp [hw]
        have hwe' : (why != 0) = true := by simp [hw]
        have hEn := Lib.hid (reader_End wr (w.heap.size + 1) A n c L k why R)
        rw [show rEnd (n - k) why = why by unfold rEnd; rw [if_neg (fun h => hw h.2)]] at hEn
        have HW := Lib.hid hw
        clear hw BX
        go_wp2_with fail
        refine (reader_Why _ (w.heap.size + 1) A n c L k why R).mono ?_
        rintro x w5 ⟨rfl, rfl⟩
        go_wp2_with fail
        refine hEn.out.mono ?_
        rintro x w6 ⟨rfl, R6, g6⟩
        replace B0 := B0.grown g6 (by simp)
        replace hB := Below.grown hB g6 hB.size (fun q hq => by injection hq with hq; omega)
        clear g6 hEn R
        have f0 := B0.frozen
        have c0 := B0.cell
        have zz := (((((((((((B0.set_ 0 (.int .i64 0)).set_ 1 (.bool false)).set_ 2 (.bool false)).set_ 3 (.bool false)).set_ 4 (.bool false)).set_ 5 (.bool false)).set_ 6 (.int .i64 0)).set_ 7 (.int .i64 0)).set_ 8 (.int .i64 0)).set_ 9 (.int .i64 0)).set_ 10 (.int .i64 0)).cell
        simp at zz
        go_wp2_with fail
        (try simp only [Exit.inBlock, Exit.then])
        refine bodyPost_ret (v := .tuple #[.agg #[.int .i64 0, .bool false, .bool false, .bool false, .bool false, .bool false, .int .i64 0, .int .i64 0, .int .i64 0, .int .i64 0, .int .i64 0], .int .i64 why]) (by simp [results, Try.results56, go_sem, zz]) rfl ⟨by rw [HA3.out, cgV_err HW.out], ?_⟩
        exact (((((((((((hB.setCell (p := ⟨w.heap.size, 0, none⟩) (by simp) _).setCell (p := ⟨w.heap.size, 1, none⟩) (by simp) _).setCell (p := ⟨w.heap.size, 2, none⟩) (by simp) _).setCell (p := ⟨w.heap.size, 3, none⟩) (by simp) _).setCell (p := ⟨w.heap.size, 4, none⟩) (by simp) _).setCell (p := ⟨w.heap.size, 5, none⟩) (by simp) _).setCell (p := ⟨w.heap.size, 6, none⟩) (by simp) _).setCell (p := ⟨w.heap.size, 7, none⟩) (by simp) _).setCell (p := ⟨w.heap.size, 8, none⟩) (by simp) _).setCell (p := ⟨w.heap.size, 9, none⟩) (by simp) _).setCell (p := ⟨w.heap.size, 10, none⟩) (by simp) _)
end Go.Proofs.Ytfebncpfhdgkpaa
