/- Contracts of verse.Same and Files; the chapter's example. -/
import Derived.Test.YtedegdojbhegdaaVerH
import Derived.Test.YtedegdojbhegdaaVerN
import Derived.Test.YtedegdojbhegdaaStrs
import Derived.Test.YtedegdojbhegdaaKeep
namespace Go.Proofs.Ytedegdojbhegdaa
open Go.RowKit Go.Sort

set_option maxRecDepth 100000 in
set_option maxHeartbeats 4000000 in
theorem verse_Same (v1 v2 : Ver) (A1 A2 : Option Addr) (n1 c1 n2 c2 : Nat) (hi1 : v1.In) (hi2 : v2.In) (w : World) (hr1 : Reads w w.heap.size 2 A1 n1 (v1.tabs.flatMap tc)) (hr2 : Reads w w.heap.size 2 A2 n2 (v2.tabs.flatMap tc)) (hn1 : n1 ≤ 100000) (hn2 : n2 ≤ 100000) :
    Calls Try.prog 16 #[.agg (verC v1 (.slice A1 n1 c1)), .agg (verC v2 (.slice A2 n2 c2))] w fun e w' => e = .returned (.bool (decide (vput v1 = vput v2))) ∧ Below w.heap.size w w' := by
  have BK1 := (Blk.new w 26 (verC v1 (.slice A1 n1 c1))).alloc (.cells (verC v2 (.slice A2 n2 c2)) 26)
  have BK2 := Blk.new (w.alloc (.cells (verC v1 (.slice A1 n1 c1)) 26)) 26 (verC v2 (.slice A2 n2 c2))
  have hB : Below w.heap.size w ((w.alloc (.cells (verC v1 (.slice A1 n1 c1)) 26)).alloc (.cells (verC v2 (.slice A2 n2 c2)) 26)) := ((Below.refl _ _).alloc (Nat.le_refl _) _).alloc (by simp) _
  have HR1 := Lib.hid (((hr1.alloc (Nat.le_refl _) (.cells (verC v1 (.slice A1 n1 c1)) 26)).alloc (by simp) (.cells (verC v2 (.slice A2 n2 c2)) 26)).more hB.size)
  have HR2 := Lib.hid (((hr2.alloc (Nat.le_refl _) (.cells (verC v1 (.slice A1 n1 c1)) 26)).alloc (by simp) (.cells (verC v2 (.slice A2 n2 c2)) 26)).more hB.size)
  simp only [World.size_alloc] at BK2
  clear hr1 hr2
  have HI1 := Lib.hid hi1
  have HI2 := Lib.hid hi2
  clear hi1 hi2
  go_enter Try.func16, Try.ntmps16
  go_upto_region 1 with fail
  generalize ((w.alloc (.cells (verC v1 (.slice A1 n1 c1)) 26)).alloc (.cells (verC v2 (.slice A2 n2 c2)) 26)) = W at *
  have q1_0 : ∀ p : Kept (fun _ => True) W.drew, p.v.cell? ⟨w.heap.size, 0, none⟩ = some (.int .i64 v1.log) := fun p => p.h.cell trivial (BK1.drew.cell 0)
  have q1_1 : ∀ p : Kept (fun _ => True) W.drew, p.v.cell? ⟨w.heap.size, 1, none⟩ = some (.int .i64 v1.next) := fun p => p.h.cell trivial (BK1.drew.cell 1)
  have q1_2 : ∀ p : Kept (fun _ => True) W.drew, p.v.cell? ⟨w.heap.size, 2, none⟩ = some (.slice A1 n1 c1) := fun p => p.h.cell trivial (BK1.drew.cell 2)
  have q1_3 : ∀ p : Kept (fun _ => True) W.drew, p.v.cell? ⟨w.heap.size, 3, none⟩ = some (.int .i64 v1.fl.1) := fun p => p.h.cell trivial (BK1.drew.cell 3)
  have q1_4 : ∀ p : Kept (fun _ => True) W.drew, p.v.cell? ⟨w.heap.size, 4, none⟩ = some (.int .i64 v1.fl.2.1) := fun p => p.h.cell trivial (BK1.drew.cell 4)
  have q1_5 : ∀ p : Kept (fun _ => True) W.drew, p.v.cell? ⟨w.heap.size, 5, none⟩ = some (.int .i64 v1.fl.2.2) := fun p => p.h.cell trivial (BK1.drew.cell 5)
  have q1_6 : ∀ p : Kept (fun _ => True) W.drew, p.v.cell? ⟨w.heap.size, 6, none⟩ = some (.int .i64 v1.fe.1) := fun p => p.h.cell trivial (BK1.drew.cell 6)
  have q1_7 : ∀ p : Kept (fun _ => True) W.drew, p.v.cell? ⟨w.heap.size, 7, none⟩ = some (.int .i64 v1.fe.2.1) := fun p => p.h.cell trivial (BK1.drew.cell 7)
  have q1_8 : ∀ p : Kept (fun _ => True) W.drew, p.v.cell? ⟨w.heap.size, 8, none⟩ = some (.int .i64 v1.fe.2.2) := fun p => p.h.cell trivial (BK1.drew.cell 8)
  have q1_9 : ∀ p : Kept (fun _ => True) W.drew, p.v.cell? ⟨w.heap.size, 9, none⟩ = some (.int .i64 v1.se.1) := fun p => p.h.cell trivial (BK1.drew.cell 9)
  have q1_10 : ∀ p : Kept (fun _ => True) W.drew, p.v.cell? ⟨w.heap.size, 10, none⟩ = some (.int .i64 v1.se.2.1) := fun p => p.h.cell trivial (BK1.drew.cell 10)
  have q1_11 : ∀ p : Kept (fun _ => True) W.drew, p.v.cell? ⟨w.heap.size, 11, none⟩ = some (.int .i64 v1.se.2.2) := fun p => p.h.cell trivial (BK1.drew.cell 11)
  have q1_12 : ∀ p : Kept (fun _ => True) W.drew, p.v.cell? ⟨w.heap.size, 12, none⟩ = some (.bool v1.quar) := fun p => p.h.cell trivial (BK1.drew.cell 12)
  have q2_0 : ∀ p : Kept (fun _ => True) W.drew, p.v.cell? ⟨w.heap.size + 1, 0, none⟩ = some (.int .i64 v2.log) := fun p => p.h.cell trivial (BK2.drew.cell 0)
  have q2_1 : ∀ p : Kept (fun _ => True) W.drew, p.v.cell? ⟨w.heap.size + 1, 1, none⟩ = some (.int .i64 v2.next) := fun p => p.h.cell trivial (BK2.drew.cell 1)
  have q2_2 : ∀ p : Kept (fun _ => True) W.drew, p.v.cell? ⟨w.heap.size + 1, 2, none⟩ = some (.slice A2 n2 c2) := fun p => p.h.cell trivial (BK2.drew.cell 2)
  have q2_3 : ∀ p : Kept (fun _ => True) W.drew, p.v.cell? ⟨w.heap.size + 1, 3, none⟩ = some (.int .i64 v2.fl.1) := fun p => p.h.cell trivial (BK2.drew.cell 3)
  have q2_4 : ∀ p : Kept (fun _ => True) W.drew, p.v.cell? ⟨w.heap.size + 1, 4, none⟩ = some (.int .i64 v2.fl.2.1) := fun p => p.h.cell trivial (BK2.drew.cell 4)
  have q2_5 : ∀ p : Kept (fun _ => True) W.drew, p.v.cell? ⟨w.heap.size + 1, 5, none⟩ = some (.int .i64 v2.fl.2.2) := fun p => p.h.cell trivial (BK2.drew.cell 5)
  have q2_6 : ∀ p : Kept (fun _ => True) W.drew, p.v.cell? ⟨w.heap.size + 1, 6, none⟩ = some (.int .i64 v2.fe.1) := fun p => p.h.cell trivial (BK2.drew.cell 6)
  have q2_7 : ∀ p : Kept (fun _ => True) W.drew, p.v.cell? ⟨w.heap.size + 1, 7, none⟩ = some (.int .i64 v2.fe.2.1) := fun p => p.h.cell trivial (BK2.drew.cell 7)
  have q2_8 : ∀ p : Kept (fun _ => True) W.drew, p.v.cell? ⟨w.heap.size + 1, 8, none⟩ = some (.int .i64 v2.fe.2.2) := fun p => p.h.cell trivial (BK2.drew.cell 8)
  have q2_9 : ∀ p : Kept (fun _ => True) W.drew, p.v.cell? ⟨w.heap.size + 1, 9, none⟩ = some (.int .i64 v2.se.1) := fun p => p.h.cell trivial (BK2.drew.cell 9)
  have q2_10 : ∀ p : Kept (fun _ => True) W.drew, p.v.cell? ⟨w.heap.size + 1, 10, none⟩ = some (.int .i64 v2.se.2.1) := fun p => p.h.cell trivial (BK2.drew.cell 10)
  have q2_11 : ∀ p : Kept (fun _ => True) W.drew, p.v.cell? ⟨w.heap.size + 1, 11, none⟩ = some (.int .i64 v2.se.2.2) := fun p => p.h.cell trivial (BK2.drew.cell 11)
  have q2_12 : ∀ p : Kept (fun _ => True) W.drew, p.v.cell? ⟨w.heap.size + 1, 12, none⟩ = some (.bool v2.quar) := fun p => p.h.cell trivial (BK2.drew.cell 12)
  have hbnd : ∀ v : Ver, v.In → v.tabs.length ≤ 100000 → (vput v).length ≤ 2000000 := fun v hv hl => by
    have := wputI_len v.log hv.log
    have := wputI_len v.next hv.next
    have := wputI_len (v.tabs.length : Int) (by omega)
    have := tabs_len v.tabs hv.tabs
    have := sput_len v.fl hv.fl.1 hv.fl.2.1 hv.fl.2.2
    have := sput_len v.fe hv.fe.1 hv.fe.2.1 hv.fe.2.2
    have := sput_len v.se hv.se.1 hv.se.2.1 hv.se.2.2
    have := wputI_len (b01 v.quar) (b01_le _)
    unfold vput vhead
    simp only [List.length_append]
    omega
  clear hbnd
  refine wp_region_mixDk (M := []) (fun _ => True) [0, 3, 1, 2, 4, 5, 6, 7] (by kernel_rfl) (by kernel_rfl) ?_
  iterate 2 (refine mix_calmDk rfl rfl ?_; go_big_quiet_step (fail); refine wpQuiet_nil ?_)
  clear q1_0 q1_1 q1_2 q1_3 q1_4 q1_5 q1_6 q1_7 q1_8 q1_9 q1_10 q1_11 q1_12 q2_0 q2_1 q2_2 q2_3 q2_4 q2_5 q2_6 q2_7 q2_8 q2_9 q2_10 q2_11 q2_12
  refine mix_loudDk rfl (by kernel_rfl) rfl ?_
  intro K1 hK1
  have HK := Lib.hid hK1
  clear hK1 
  go_wp2_with fail
  refine (verse_Put v1 A1 n1 c1 HI1.out W.drew (HR1.out.drewN 1) hn1).mono ?_
  rintro x w1 ⟨x1, rfl, o1, b1⟩
  have O1 := Lib.hid o1
  have HB1 := Lib.hid b1
  clear o1 b1
  go_wp2_with fail
  refine HK.out _ _ (Stand.of_below HB1.out) ?_
  clear HK
  obtain ⟨A3, c3, rfl, _, R3⟩ := O1.out.reads
  have hcv1 : ∀ p : Kept (fun _ => True) w1, (convert 37 9 (.slice A3 (vput v1).length c3)).run Try.prog p.v = .ok (.string ⟨(vput v1).toArray⟩) p.v := fun p => run_string_of p.v w1.heap.size A3 _ c3 _ (p.h.reads (fun _ _ => trivial) (Nat.le_refl _) R3)
  iterate 1 (refine mix_calmDk rfl rfl ?_; go_big_quiet_step (fail); refine wpQuiet_nil ?_)
  clear hcv1
  refine mix_loudDk rfl (by kernel_rfl) rfl ?_
  intro K1 hK1
  have HK := Lib.hid hK1
  clear hK1 
  go_wp2_with fail
  refine (verse_Put v2 A2 n2 c2 HI2.out w1 ((HR2.out.drewN 1).below HB1.out |>.more HB1.out.size) hn2).mono ?_
  rintro x w2 ⟨x2, rfl, o2, b2⟩
  have O2 := Lib.hid o2
  have HB2 := Lib.hid b2
  clear o2 b2
  go_wp2_with fail
  refine HK.out _ _ (Stand.of_below HB2.out) ?_
  clear HK
  obtain ⟨A4, c4, rfl, _, R4⟩ := O2.out.reads
  have hcv2 : ∀ p : Kept (fun _ => True) w2, (convert 37 9 (.slice A4 (vput v2).length c4)).run Try.prog p.v = .ok (.string ⟨(vput v2).toArray⟩) p.v := fun p => run_string_of p.v w2.heap.size A4 _ c4 _ (p.h.reads (fun _ _ => trivial) (Nat.le_refl _) R4)
  iterate 3 (refine mix_calmDk rfl rfl ?_; go_big_quiet_step (fail); refine wpQuiet_nil ?_)
  refine mix_endDk ?_
  clear hcv2
  have hBe : Below w.heap.size w w2 := ((below_drewN hB 1).trans (HB1.out.mono hB.size)).trans (HB2.out.mono (Nat.le_trans hB.size HB1.out.size))
  have HEQ : Hid ((vput v1 == vput v2) = decide (vput v1 = vput v2)) := Lib.hid (by rw [Bool.eq_iff_iff, beq_iff_eq, decide_eq_true_iff])
  go_wp2_with fail
  go_ret
  exact ⟨by rw [← HEQ.out]; rfl, hBe⟩

/-- The names of a version's files. -/
def filesL (v : Ver) (pre : ByteArray) : List (List UInt8) := (fname pre ⟨#[108, 111, 103]⟩ v.log).data.toList :: v.tabs.map fun t => (fname pre ⟨#[116, 97, 98]⟩ t.1).data.toList
theorem sv_str (s : ByteArray) : sv s.data.toList = .string s := by cases s; rfl
def FreshL (w : World) (S : List (List UInt8)) (e : Ending) (w' : World) : Prop := ∃ v', e = .returned v' ∧ OwnS w' w.heap.size v' S ∧ Below w.heap.size w w'
theorem OwnS.lt' {w : World} {base : Nat} {v : Value} {S : List (List UInt8)} (h : OwnS w base v S) : ∀ k, v.ownBlock = some k → base ≤ k ∧ k < w.heap.size := World.ownsRow.lt h
theorem own_str1 (w : World) (s : ByteArray) : OwnS (w.alloc (.cells #[.string s] 9)) w.heap.size (.slice (some ⟨w.heap.size, 0, none⟩) 1 1) [s.data.toList] := by
  have := World.ownsRow_lit (e := 9) (size := 1) w #[.string s] 1 (Nat.le_refl _) (by unfold maxLen; omega) (by simp)
  simpa [OwnS, sv] using this
def FlRel (w : World) (v : Ver) (pre : ByteArray) (tv v5 v16 : Value) (wr : World) : Prop :=
  ∃ k : Nat, v16 = .int .i64 k ∧ k ≤ v.tabs.length ∧ OwnS wr (w.heap.size + 1) v5 ((filesL v pre).take (k + 1)) ∧ Blk wr w.heap.size 26 (verC v tv) ∧ Below w.heap.size w wr
theorem files_take (v : Ver) (pre : ByteArray) (k : Nat) (hk : k < v.tabs.length) : (filesL v pre).take (k + 1 + 1) = (filesL v pre).take (k + 1) ++ [(fname pre ⟨#[116, 97, 98]⟩ v.tabs[k].1).data.toList] := by
  have hl : k + 1 < (filesL v pre).length := by simp [filesL]; omega
  rw [List.take_succ_eq_append_getElem hl]
  congr 2
  simp [filesL]

set_option maxRecDepth 100000 in
set_option maxHeartbeats 4000000 in
theorem verse_Files (v : Ver) (pre : ByteArray) (hp : pre.size ≤ 1000000) (A : Option Addr) (n c : Nat) (hlog : -9223372036854775808 ≤ v.log ∧ v.log ≤ 9223372036854775807) (htabs : ∀ t ∈ v.tabs, -9223372036854775808 ≤ t.1 ∧ t.1 ≤ 9223372036854775807) (w : World) (hr : Reads w w.heap.size 2 A n (v.tabs.flatMap tc)) (hn : n ≤ 100000) :
    Calls Try.prog 28 #[.agg (verC v (.slice A n c)), .string pre] w (FreshL w (filesL v pre)) := by
  have hll := tabs_n hr
  have BK := Blk.new w 26 (verC v (.slice A n c))
  have hB : Below w.heap.size w (w.alloc (.cells (verC v (.slice A n c)) 26)) := (Below.refl _ _).alloc (Nat.le_refl _) _
  have hW : (w.alloc (.cells (verC v (.slice A n c)) 26)).heap.size = w.heap.size + 1 := by simp
  have q0 : (w.alloc (.cells (verC v (.slice A n c)) 26)).cell? ⟨w.heap.size, 0, none⟩ = some (.int .i64 v.log) := BK.cell 0
  have HR := Lib.hid hr
  have HLL := Lib.hid hll
  have HTB := Lib.hid htabs
  clear hr hll htabs
  go_enter Try.func28, Try.ntmps28
  go_wp2_with fail
  have hs1 : w.heap.size + 1 ≤ (w.alloc (.cells (verC v (.slice A n c)) 26)).heap.size := by omega
  clear hW
  generalize w.alloc (.cells (verC v (.slice A n c)) 26) = W at *
  refine (verse_Log pre hp v.log hlog.2 hlog.1 W).mono ?_
  rintro x w1 ⟨rfl, b1⟩
  replace BK := BK.below b1 BK.lt
  replace hB := hB.trans (b1.mono hB.size)
  replace hs1 := Nat.le_trans hs1 b1.size
  clear b1 q0
  have O1 := own_str1 w1 (fname pre ⟨#[108, 111, 103]⟩ v.log)
  have O2 := Lib.hid (own_base O1 hs1)
  have HT1 : Hid ((filesL v pre).take (0 + 1) = [(fname pre ⟨#[108, 111, 103]⟩ v.log).data.toList]) := Lib.hid (by simp [filesL])
  replace BK := BK.alloc (.cells #[.string (fname pre ⟨#[108, 111, 103]⟩ v.log)] 9)
  replace hB := hB.alloc hB.size (.cells #[.string (fname pre ⟨#[108, 111, 103]⟩ v.log)] 9)
  have c2 : (w1.alloc (.cells #[.string (fname pre ⟨#[108, 111, 103]⟩ v.log)] 9)).cell? ⟨w.heap.size, 2, none⟩ = some (.slice A n c) := BK.cell 2
  clear O1
  go_wp2_with fail
  clear c2
  generalize w1.alloc (.cells #[.string (fname pre ⟨#[108, 111, 103]⟩ v.log)] 9) = W2 at *
  go_loopw [5, 7, 16] (fun v5 _ v16 wr => FlRel w v pre (.slice A n c) v5 v16 wr) (fun _ _ v16 _ => n - (RowKit.intOf v16).toNat)
  case atStart => exact ⟨0, rfl, Nat.zero_le _, by rw [HT1.out]; exact O2.out, BK, hB⟩
  case round =>
    clear O2 BK hB
    obtain ⟨k, rfl, hk, O, BK, hB⟩ := hrel
    rw [HLL.out] at hk
    have HO := Lib.hid O
    clear O
    by_cases hkn : k < n
    · have hkT : k < v.tabs.length := by have := HLL.out; omega
      obtain ⟨-, b, off, hA, hb, t0, t1⟩ := tab_at (HR.out.below hB) hkT
      subst hA
      have hid := HTB.out v.tabs[k] (List.getElem_mem hkT)
      have HF := Lib.hid (files_take v pre k hkT)
      have hlen : ((filesL v pre).take (k + 1)).length = k + 1 := by rw [List.length_take]; simp [filesL]; omega
      obtain ⟨id, rp, hid2⟩ : ∃ id rp, v.tabs[k] = (id, rp) := ⟨_, _, rfl⟩
      rw [hid2] at t0 t1 hid HF
      simp only [] at t0 t1 hid
      have HLN := Lib.hid hlen
      have hlt := BK.lt
      have BT := Blk.new wr 71 #[.int .i64 id, .bool rp]
      have ct := BT.cell
      replace BK := BK.alloc (.cells #[.int .i64 id, .bool rp] 71)
      replace hB := hB.alloc hB.size (.cells #[.int .i64 id, .bool rp] 71)
      replace HO := Lib.hid (HO.out.alloc (.cells #[.int .i64 id, .bool rp] 71))
      have hs2 : w.heap.size + 1 ≤ (wr.alloc (.cells #[.int .i64 id, .bool rp] 71)).heap.size := by rw [World.size_alloc]; omega
      clear hid2 hlen
      go_wp2_with fail
      clear ct t0 t1 BT
      generalize wr.alloc (.cells #[.int .i64 id, .bool rp] 71) = W3 at *
      refine (verse_Table pre hp id hid.2 hid.1 W3).mono ?_
      rintro x w4 ⟨rfl, b4⟩
      replace BK := BK.below b4 BK.lt
      replace hB := hB.trans (b4.mono hB.size)
      replace HO := Lib.hid (HO.out.below b4)
      replace hs2 := Nat.le_trans hs2 b4.size
      clear b4
      go_wp2_with (at_builtin; go_must (refine append_str w4 (fname pre ⟨#[116, 97, 98]⟩ id).data.toList _ (by rw [sv_str]) _ rfl _ _ rfl (w.heap.size + 1) _ ((filesL v pre).take (k + 1)) rfl HO.out rfl (by rw [HLN.out]; omega) hs2 ?_); intro v5 w5 o5 g5 _)
      have BK5 := BK.grown g5 (fun e => by have := (HO.out.lt' _ e.symm).1; omega)
      have hB5 := Below.grown hB g5 hB.size (fun q hq => by have := (HO.out.lt' _ hq).1; omega)
      rw [← HF.out] at o5
      have HO5 := Lib.hid o5
      clear o5
      go_roundw
      case rel => exact ⟨k + 1, by go_num, by rw [HLL.out]; omega, HO5.out, BK5, hB5⟩
      case measure => simp [RowKit.intOf]; omega
    · have hkn : k = n := by omega
      subst hkn
      have hall : (filesL v pre).take (k + 1) = filesL v pre := List.take_of_length_le (by simp [filesL]; have := HLL.out; omega)
      rw [hall] at HO
      clear hall
      go_wp2_with fail
      go_ret
      exact ⟨_, rfl, own_base HO.out (Nat.le_succ _), hB⟩

def vEx : Ver := ⟨2, 3, [(3, true)], (4, 0, 0), (0, 0, 0), (0, 0, 0), false⟩
theorem vEx_ok : VRt vEx := by
  refine ⟨⟨by decide, by decide, by decide, by decide⟩, fun i t h => ?_, rfl, rfl, rfl⟩
  match i, h with
  | 0, h =>
    have e : t = (3, true) := by simpa [vEx] using h.symm
    subst e
    exact ⟨by decide, by decide, by decide, fun j u hj => absurd hj (Nat.not_lt_zero _)⟩
  | i + 1, h => simp [vEx] at h
theorem log_ex : fname ⟨#[114, 48]⟩ ⟨#[108, 111, 103]⟩ 12 = ⟨#[114, 48, 45, 108, 111, 103, 45, 49, 50]⟩ := by
  apply str_ext
  unfold fname numS
  rw [show (12 : Int).toNat = 12 from rfl, dec_hi 12 (by decide), dec_lo (12 / 10) (by decide)]
  decide +kernel
end Go.Proofs.Ytedegdojbhegdaa
