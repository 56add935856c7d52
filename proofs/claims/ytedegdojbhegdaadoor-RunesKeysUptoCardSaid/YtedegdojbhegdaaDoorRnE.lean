/- Contracts of the reference's Same; of runes.Lines and the reference's Lines. -/
import Derived.Test.YtedegdojbhegdaaDoorRnD
import Derived.Test.YtedegdojbhegdaaDoorForm
namespace Go.Proofs.YtedegdojbhegdaaDoor
open Go.RowKit Go.Sort Go.Lib

theorem ret_bool2 {a b : Bool} (h : a = b) : Ending.returned (.bool a) = .returned (.bool b) := by rw [h]
theorem Reads.lens {w : World} {B n : Nat} {A : Option Addr} {S : List (List UInt8)} (h : Reads w B 1 A n (S.map sv)) : S.length = n := by have := h.1; simpa using this
theorem take_succ_eqS {l1 l2 : List (List UInt8)} {k : Nat} (h : l1.take k = l2.take k) (h1 : k < l1.length) (h2 : k < l2.length) (he : l1[k] = l2[k]) : l1.take (k + 1) = l2.take (k + 1) := by
  rw [List.take_succ_eq_append_getElem h1, List.take_succ_eq_append_getElem h2, h, he]
theorem str_eq_iff (a b : List UInt8) : ((⟨a.toArray⟩ : ByteArray) = ⟨b.toArray⟩) ↔ a = b := by
  constructor
  · intro h
    have := congrArg bl h
    rwa [bl_mk, bl_mk] at this
  · rintro rfl; rfl
theorem toList_inj_str (a b : List UInt8) : ((⟨a.toArray⟩ : ByteArray).toList = (⟨b.toArray⟩ : ByteArray).toList) ↔ a = b := by
  rw [Lib.toList_data, Lib.toList_data]

set_option maxRecDepth 100000 in
set_option maxHeartbeats 1000000 in
theorem ref01_Same (A1 A2 : Option Addr) (n1 n2 c1 c2 : Nat) (S1 S2 : List (List UInt8)) (w : World) (h1 : Reads w w.heap.size 1 A1 n1 (S1.map sv)) (h2 : Reads w w.heap.size 1 A2 n2 (S2.map sv)) (hm : n1 ≤ 9223372036854775807) :
    Calls Tryd.prog 47 #[.slice A1 n1 c1, .slice A2 n2 c2] w fun e w' => e = .returned (.bool (decide (S1 = S2))) ∧ Below w.heap.size w w' := by
  have e1 := h1.lens
  have e2 := h2.lens
  by_cases hn : n1 = n2
  · subst hn
    have E1 := Lib.hid e1
    have E2 := Lib.hid e2
    have R1 := Lib.hid h1
    have R2 := Lib.hid h2
    have hne : ((n1 : Int) != (n1 : Int)) = false := by simp
    clear e1 e2 h1 h2
    go_enter Tryd.func47, Tryd.ntmps47
    go_wp2_with fail
    go_loopw [5] (fun v5 wr => ∃ k : Nat, v5 = .int .i64 k ∧ k ≤ n1 ∧ S1.take k = S2.take k ∧ Below w.heap.size w wr) (fun v5 _ => n1 - (intOf v5).toNat)
    case atStart => exact ⟨0, rfl, Nat.zero_le _, rfl, Below.refl _ _⟩
    case round =>
      obtain ⟨k, rfl, hk, ht, hB⟩ := hrel
      have HT := Lib.hid ht
      clear ht
      by_cases hlt : k < n1
      · obtain ⟨b, off, rfl, _, hc⟩ := Reads.form (R1.out.below hB) (by omega)
        obtain ⟨b2, off2, rfl, _, hc2⟩ := Reads.form (R2.out.below hB) (by omega)
        have hk1 : k < S1.length := by have := E1.out; omega
        have hk2 : k < S2.length := by have := E2.out; omega
        have q1 := hc k (sv S1[k]) (by simp [hk1])
        have q2 := hc2 k (sv S2[k]) (by simp [hk2])
        obtain ⟨x1, hx1⟩ : ∃ x, S1[k] = x := ⟨_, rfl⟩
        obtain ⟨x2, hx2⟩ : ∃ x, S2[k] = x := ⟨_, rfl⟩
        rw [hx1] at q1
        rw [hx2] at q2
        unfold sv at q1 q2
        have s1 := cell_regrown q1
        have s2 := cell_regrown q2
        have hti := toList_inj_str x1 x2
        have HX1 := Lib.hid hx1
        have HX2 := Lib.hid hx2
        clear hc hc2 hx1 hx2
        by_cases he : x1 = x2
        · subst he
          have HI := Lib.hid hti
          clear hti
          have hq : (x1 == x1) = true := by simp
          have hq2 : (!(x1 == x1)) = false := by rw [hq]; rfl
          go_upto_region 6 with fail
          refine wp_region_quiet_below (by kernel_rfl) (by kernel_rfl) ?_
          repeat (go_big_quiet_step (fail))
          refine wpQuiet_nil ?_
          intro _ hw'
          obtain ⟨⟨dq, osq⟩, hw''⟩ := hw'
          subst hw''
          replace hB := hB.trans ((below_regrown wr dq osq).mono hB.size)
          clear s1 s2 q1 q2
          generalize grow (redrawn wr dq) osq = w9 at *
          go_wp2_with fail
          go_roundw
          case rel => exact ⟨k + 1, by go_num, by omega, take_succ_eqS HT.out hk1 hk2 (HX1.out.trans HX2.out.symm), hB⟩
          case measure => simp [intOf]; omega
        · have hq : (x1 == x2) = false := by simpa using he
          have hq2 : (!(x1 == x2)) = true := by rw [hq]; rfl
          have HE : Hid (decide (S1 = S2) = false) := Lib.hid (by
            rw [decide_eq_false_iff_not]
            rintro rfl
            exact he (HX1.out.symm.trans HX2.out))
          clear hti
          go_upto_region 6 with fail
          refine wp_region_quiet_below (by kernel_rfl) (by kernel_rfl) ?_
          repeat (go_big_quiet_step (fail))
          refine wpQuiet_nil ?_
          intro _ hw'
          obtain ⟨⟨dq, osq⟩, hw''⟩ := hw'
          subst hw''
          replace hB := hB.trans ((below_regrown wr dq osq).mono hB.size)
          clear s1 s2 q1 q2
          generalize grow (redrawn wr dq) osq = w9 at *
          go_wp2_with fail
          go_ret
          exact ⟨ret_bool2 HE.out.symm, hB⟩
      · have HE : Hid (decide (S1 = S2) = true) := Lib.hid (by
          rw [decide_eq_true_eq]
          have h1 := HT.out
          rwa [List.take_of_length_le (by have := E1.out; omega), List.take_of_length_le (by have := E2.out; omega)] at h1)
        go_wp2_with fail
        go_ret
        exact ⟨ret_bool2 HE.out.symm, hB⟩
  · have hne : ((n1 : Int) != (n2 : Int)) = true := by simp; omega
    have HE : Hid (decide (S1 = S2) = false) := Lib.hid (by
      rw [decide_eq_false_iff_not]
      rintro rfl
      omega)
    clear h1 h2 e1 e2
    go_enter Tryd.func47, Tryd.ntmps47
    go_wp2_with fail
    go_ret
    exact ⟨ret_bool2 HE.out.symm, Below.refl _ _⟩
end Go.Proofs.YtedegdojbhegdaaDoor
