/- The walk of the law VerseFiles: it returns true, and nothing that was there ahead of the call has turned. -/
import Derived.Test.YtedegdojbhegdaaVerR
import Derived.Test.YtedegdojbhegdaaStrsEq
import Derived.Test.YtedegdojbhegdaaOpenVer
namespace Go.Proofs.Ytedegdojbhegdaa
open Go.RowKit Go.Sort

theorem own_EqualS {w : World} {b1 b2 : Nat} {v1 v2 : Value} {l1 l2 : List (List UInt8)} (h1 : OwnS w b1 v1 l1) (h2 : OwnS w b2 v2 l2) (hm : l1.length ≤ 9223372036854775807) :
    Calls Try.prog 27 #[v1, v2] w fun e w' => e = .returned (.bool (decide (l1 = l2))) ∧ Below w.heap.size w w' := by
  obtain ⟨A1, c1, rfl, _, _, r1⟩ := h1.reads
  obtain ⟨A2, c2, rfl, _, _, r2⟩ := h2.reads
  exact strs_Equal A1 A2 _ _ c1 c2 l1 l2 w r1 r2 hm

set_option maxRecDepth 100000 in
set_option maxHeartbeats 8000000 in
theorem verse_files_walk (w : World) (pre : ByteArray) (_ : pre.size ≤ maxLen) (m : Int) (wm : (Lit.int .i64 m).wf = true) (v : Ver) (A : Option Addr) (n c : Nat) (_ : n ≤ c) (_ : c ≤ maxLen) (hr : Reads w w.heap.size 2 A n (v.tabs.flatMap tc)) (hv : W64 v.log ∧ W64 v.next ∧ ∀ t ∈ v.tabs, W64 t.1) :
    Calls Try.prog 6 #[.string pre, .int .i64 m, .agg (verC v (.slice A n c))] w fun x w' => x = .returned (.bool true) ∧ Below w.heap.size w w' := by
  have hB : Below w.heap.size w (w.alloc (.cells (verC v (.slice A n c)) 26)) := (Below.refl _ _).alloc (Nat.le_refl _) _
  have BK := Blk.new w 26 (verC v (.slice A n c))
  have hll := tabs_n hr
  have HR := Lib.hid hr
  have HLL := Lib.hid hll
  have HV := Lib.hid hv
  have HM := Lib.hid (w64_of wm)
  have hW : (w.alloc (.cells (verC v (.slice A n c)) 26)).heap.size = w.heap.size + 1 := by simp
  have HW := Lib.hid hW
  clear hr hll hv wm hW
  by_cases hbig : 100 < pre.size
  · have hd : decide (100 < (pre.size : Int)) = true := by simp; omega
    go_enter Try.func6, Try.ntmps6
    go_wp2_with fail
    go_ret
    exact ⟨rfl, hB⟩
  have hd : decide (100 < (pre.size : Int)) = false := by simp; omega
  have q2 : (w.alloc (.cells (verC v (.slice A n c)) 26)).cell? ⟨w.heap.size, 2, none⟩ = some (.slice A n c) := BK.cell 2
  by_cases hbig2 : 100 < n
  · have hd : decide (100 < (n : Int)) = true := by simp; omega
    go_enter Try.func6, Try.ntmps6
    go_wp2_with fail
    go_ret
    exact ⟨rfl, hB⟩
  have hd2 : decide (100 < (n : Int)) = false := by simp; omega
  have q0 : (w.alloc (.cells (verC v (.slice A n c)) 26)).cell? ⟨w.heap.size, 0, none⟩ = some (.int .i64 v.log) := BK.cell 0
  go_enter Try.func6, Try.ntmps6
  go_wp2_with fail
  have hs1 : w.heap.size + 1 ≤ (w.alloc (.cells (verC v (.slice A n c)) 26)).heap.size := by rw [HW.out]; omega
  clear HW
  generalize w.alloc (.cells (verC v (.slice A n c)) 26) = W at *
  refine (ref17_Name pre ⟨#[108, 111, 103]⟩ (by omega) (by decide) v.log HV.out.1.2 W).mono ?_
  rintro x w1 ⟨rfl, b1⟩
  replace BK := BK.below b1 BK.lt
  replace hB := hB.trans (b1.mono hB.size)
  replace hs1 := Nat.le_trans hs1 b1.size
  clear b1 q0 q2
  have O1 := own_str1 w1 (fname pre ⟨#[108, 111, 103]⟩ v.log)
  have O2 := Lib.hid (own_base O1 hs1)
  have HT1 : Hid ((filesL v pre).take (0 + 1) = [(fname pre ⟨#[108, 111, 103]⟩ v.log).data.toList]) := Lib.hid (by simp [filesL])
  replace BK := BK.alloc (.cells #[.string (fname pre ⟨#[108, 111, 103]⟩ v.log)] 9)
  replace hB := hB.alloc hB.size (.cells #[.string (fname pre ⟨#[108, 111, 103]⟩ v.log)] 9)
  clear O1
  go_wp2_with fail
  generalize w1.alloc (.cells #[.string (fname pre ⟨#[108, 111, 103]⟩ v.log)] 9) = W2 at *
  go_loopw [7, 8] (fun v7 v8 wr => FlRel w v pre (.slice A n c) v7 v8 wr) (fun _ v8 _ => n - (RowKit.intOf v8).toNat)
  case atStart => exact ⟨0, rfl, Nat.zero_le _, by rw [HT1.out]; exact O2.out, BK, hB⟩
  case round =>
    clear O2 BK hB
    obtain ⟨k, rfl, hk, O, BK, hB⟩ := hrel
    rw [HLL.out] at hk
    have HO := Lib.hid O
    clear O
    have q2 : wr.cell? ⟨w.heap.size, 2, none⟩ = some (.slice A n c) := BK.cell 2
    by_cases hkn : k < n
    · have hkT : k < v.tabs.length := by have := HLL.out; omega
      obtain ⟨-, b, off, hA, hb, t0, t1⟩ := tab_at (HR.out.below hB) hkT
      subst hA
      have hid := HV.out.2.2 v.tabs[k] (List.getElem_mem hkT)
      have HF := Lib.hid (files_take v pre k hkT)
      have hlen : ((filesL v pre).take (k + 1)).length = k + 1 := by rw [List.length_take]; simp [filesL]; omega
      obtain ⟨id, rp, hid2⟩ : ∃ id rp, v.tabs[k] = (id, rp) := ⟨_, _, rfl⟩
      rw [hid2] at t0 t1 hid HF
      simp only [] at t0 t1 hid
      have HLN := Lib.hid hlen
      have HID := Lib.hid hid
      have hs2 : w.heap.size + 1 ≤ wr.heap.size := Nat.succ_le_of_lt BK.lt
      clear hid2 hlen hid
      go_wp2_with fail
      clear t0 t1 q2
      refine (ref17_Name pre ⟨#[116, 97, 98]⟩ (by omega) (by decide) id HID.out.2 wr).mono ?_
      rintro x w4 ⟨rfl, b4⟩
      replace BK := BK.below b4 BK.lt
      replace hB := hB.trans (b4.mono hB.size)
      replace HO := Lib.hid (HO.out.below b4)
      replace hs2 := Nat.le_trans hs2 b4.size
      clear b4
      go_wp2_with (at_builtin; go_must (refine append_str w4 (fname pre ⟨#[116, 97, 98]⟩ id).data.toList _ (by rw [sv_str]) _ rfl _ _ rfl (w.heap.size + 1) _ ((filesL v pre).take (k + 1)) rfl HO.out rfl (by rw [HLN.out]; omega) hs2 ?_); intro v5 w5 o5 g5 _)
      have BK5 := BK.grown g5 (fun e => by have := (HO.out.lt' _ e.symm).1; omega)
      have hB5 := Below.grown hB g5 hB.size (fun q hq => by have := (HO.out.lt' _ hq).1; omega)
      rw [← HF.out] at o5
      have HO5 := Lib.hid o5
      clear o5
      go_roundw
      case rel => exact ⟨k + 1, by go_num, by rw [HLL.out]; omega, HO5.out, BK5, hB5⟩
      case measure => simp [RowKit.intOf]; omega
    · have hkn : k = n := by omega
      subst hkn
      have hfl : (filesL v pre).length = k + 1 := by simp [filesL]; have := HLL.out; omega
      have hall : (filesL v pre).take (k + 1) = filesL v pre := List.take_of_length_le (by omega)
      rw [hall] at HO
      have HFL := Lib.hid hfl
      clear hall hfl q2
      have q0 : wr.cell? ⟨w.heap.size, 0, none⟩ = some (.int .i64 v.log) := BK.cell 0
      have q1 : wr.cell? ⟨w.heap.size, 1, none⟩ = some (.int .i64 v.next) := BK.cell 1
      have q2 : wr.cell? ⟨w.heap.size, 2, none⟩ = some (.slice A k c) := BK.cell 2
      have q3 : wr.cell? ⟨w.heap.size, 3, none⟩ = some (.int .i64 v.fl.1) := BK.cell 3
      have q4 : wr.cell? ⟨w.heap.size, 4, none⟩ = some (.int .i64 v.fl.2.1) := BK.cell 4
      have q5 : wr.cell? ⟨w.heap.size, 5, none⟩ = some (.int .i64 v.fl.2.2) := BK.cell 5
      have q6 : wr.cell? ⟨w.heap.size, 6, none⟩ = some (.int .i64 v.fe.1) := BK.cell 6
      have q7 : wr.cell? ⟨w.heap.size, 7, none⟩ = some (.int .i64 v.fe.2.1) := BK.cell 7
      have q8 : wr.cell? ⟨w.heap.size, 8, none⟩ = some (.int .i64 v.fe.2.2) := BK.cell 8
      have q9 : wr.cell? ⟨w.heap.size, 9, none⟩ = some (.int .i64 v.se.1) := BK.cell 9
      have q10 : wr.cell? ⟨w.heap.size, 10, none⟩ = some (.int .i64 v.se.2.1) := BK.cell 10
      have q11 : wr.cell? ⟨w.heap.size, 11, none⟩ = some (.int .i64 v.se.2.2) := BK.cell 11
      have q12 : wr.cell? ⟨w.heap.size, 12, none⟩ = some (.bool v.quar) := BK.cell 12
      go_wp2_with fail
      clear q0 q1 q2 q3 q4 q5 q6 q7 q8 q9 q10 q11 q12
      refine (verse_Files v pre (by omega) A k c HV.out.1 HV.out.2.2 wr ((HR.out.below hB).more hB.size) (by omega)).mono ?_
      rintro x w2 ⟨v2, rfl, o2, b2⟩
      replace HO := Lib.hid (HO.out.below b2)
      replace hB := hB.trans (b2.mono hB.size)
      have O2 := Lib.hid o2
      clear o2 b2
      have hE := own_EqualS O2.out HO.out (by rw [HFL.out]; omega)
      rw [decide_eq_true rfl] at hE
      have HE := Lib.hid hE
      clear hE
      go_wp2_with fail
      refine HE.out.mono ?_
      clear HE HO O2
      rintro x w3 ⟨rfl, b3⟩
      replace hB := hB.trans (b3.mono hB.size)
      clear b3
      have heq : ∀ s : ByteArray, (s.toList == s.toList) = true := fun s => by simp
      go_wp2_with fail
      refine (verse_Log pre (by omega) m HM.out.2 HM.out.1 w3).mono ?_
      rintro x w4 ⟨rfl, b4⟩
      replace hB := hB.trans (b4.mono hB.size)
      clear b4
      go_wp2_with fail
      refine (ref17_Name pre ⟨#[108, 111, 103]⟩ (by omega) (by decide) m HM.out.2 w4).mono ?_
      rintro x w5 ⟨rfl, b5⟩
      replace hB := hB.trans (b5.mono hB.size)
      clear b5
      generalize fname pre ⟨#[108, 111, 103]⟩ m = f1 at *
      go_wp2_with fail
      refine (verse_Table pre (by omega) m HM.out.2 HM.out.1 w5).mono ?_
      rintro x w6 ⟨rfl, b6⟩
      replace hB := hB.trans (b6.mono hB.size)
      clear b6
      go_wp2_with fail
      refine (ref17_Name pre ⟨#[116, 97, 98]⟩ (by omega) (by decide) m HM.out.2 w6).mono ?_
      rintro x w7 ⟨rfl, b7⟩
      replace hB := hB.trans (b7.mono hB.size)
      clear b7
      generalize fname pre ⟨#[116, 97, 98]⟩ m = f2 at *
      go_wp2_with fail
      refine (verse_Base pre (by omega) w7).mono ?_
      rintro x w8 ⟨rfl, rfl⟩
      go_wp2_with fail
      refine (verse_Fresh pre (by omega) w7).mono ?_
      rintro x w8 ⟨rfl, rfl⟩
      go_wp2_with fail
      refine (alive17 w7).mono ?_
      rintro x w9 ⟨rfl, b9⟩
      go_wp2_with fail
      go_ret
      exact ⟨rfl, hB.trans (b9.mono hB.size)⟩
end Go.Proofs.Ytedegdojbhegdaa
