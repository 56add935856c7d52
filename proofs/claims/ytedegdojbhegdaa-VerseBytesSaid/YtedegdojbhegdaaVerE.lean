/- Contract of verse.Right: may there be such a version? -/
import Derived.Test.YtedegdojbhegdaaVerD
namespace Go.Proofs.Ytedegdojbhegdaa
open Go.RowKit Go.Sort

/-- A table that may be, behind those ahead of it. -/
def TabOk (v : Ver) (i : Nat) (t : Int × Bool) : Prop := 1 ≤ t.1 ∧ t.1 ≤ v.next ∧ t.1 ≠ v.log ∧ ∀ (j : Nat) (u : Int × Bool), j < i → v.tabs[j]? = some u → u.1 ≠ t.1
def SOk (s : Int × Int × Int) : Prop := sokB s.1 s.2.1 s.2.2 = true
/-- May there be such a version? -/
def VRt (v : Ver) : Prop := (0 ≤ v.log ∧ v.log ≤ v.next ∧ v.next ≤ 1099511627776 ∧ v.tabs.length ≤ 64) ∧ (∀ (i : Nat) (t : Int × Bool), v.tabs[i]? = some t → TabOk v i t) ∧ SOk v.fl ∧ SOk v.fe ∧ SOk v.se
noncomputable def vrtB (v : Ver) : Bool := @decide (VRt v) (Classical.propDecidable _)
theorem vrtB_no {v : Ver} (h : ¬ VRt v) : vrtB v = false := @decide_eq_false _ (Classical.propDecidable _) h
theorem vrtB_yes {v : Ver} (h : VRt v) : vrtB v = true := @decide_eq_true _ (Classical.propDecidable _) h
theorem vrt_of {v : Ver} (h : vrtB v = true) : VRt v := @of_decide_eq_true _ (Classical.propDecidable _) h
theorem ret_b {a b : Bool} (h : a = b) : Ending.returned (.bool a) = .returned (.bool b) := by rw [h]

def VrRel (w : World) (g : Nat) (v : Ver) (tv : Value) (t : TypeId) (vi : Value) (wr : World) : Prop :=
  ∃ k : Nat, vi = .int .i64 k ∧ k ≤ v.tabs.length ∧ (∀ (i : Nat) (t : Int × Bool), i < k → v.tabs[i]? = some t → TabOk v i t) ∧ Blk wr g t (verC v tv) ∧ Below w.heap.size w wr
def VrRel2 (w : World) (g gt : Nat) (v : Ver) (tv : Value) (t tt : TypeId) (id : Int) (rp : Bool) (k : Nat) (vi : Value) (wr : World) : Prop :=
  ∃ j : Nat, vi = .int .i64 j ∧ j ≤ k ∧ (∀ (i : Nat) (u : Int × Bool), i < j → v.tabs[i]? = some u → u.1 ≠ id) ∧ Blk wr g t (verC v tv) ∧ Blk wr gt tt #[.int .i64 id, .bool rp] ∧ Below w.heap.size w wr

set_option maxRecDepth 100000 in
set_option maxHeartbeats 4000000 in
theorem verse_Right (v : Ver) (A : Option Addr) (n c : Nat) (w : World) (hr : Reads w w.heap.size 2 A n (v.tabs.flatMap tc)) (hn : n ≤ 1000000000) (hnc : n ≤ c) :
    Calls Try.prog 9 #[.agg (verC v (.slice A n c))] w fun e w' => e = .returned (.bool (vrtB v)) ∧ Below w.heap.size w w' := by
  have hll := tabs_n hr
  have BK := Blk.new w 26 (verC v (.slice A n c))
  have hB : Below w.heap.size w (w.alloc (.cells (verC v (.slice A n c)) 26)) := (Below.refl _ _).alloc (Nat.le_refl _) _
  obtain ⟨q, hq⟩ : ∃ q, vrtB v = q := ⟨_, rfl⟩
  have HQ := Lib.hid hq
  rw [hq]
  have HR := Lib.hid hr
  have HLL := Lib.hid hll
  have q0 : (w.alloc (.cells (verC v (.slice A n c)) 26)).cell? ⟨w.heap.size, 0, none⟩ = some (.int .i64 v.log) := BK.cell 0
  have q1 : (w.alloc (.cells (verC v (.slice A n c)) 26)).cell? ⟨w.heap.size, 1, none⟩ = some (.int .i64 v.next) := BK.cell 1
  have q2 : (w.alloc (.cells (verC v (.slice A n c)) 26)).cell? ⟨w.heap.size, 2, none⟩ = some (.slice A n c) := BK.cell 2
  clear hq hr hll
  by_cases hx : v.log < 0
  · have HF : Hid (q = false) := Lib.hid (by rw [← HQ.out]; exact vrtB_no (fun h => by have h1 := h.1; have hl := HLL.out; omega))
    have hd : decide (v.log < 0) = true := by simp; omega
    clear hx HQ
    go_enter Try.func9, Try.ntmps9
    go_wp2_with fail
    go_ret
    exact ⟨ret_b HF.out.symm, hB⟩
  have hd1 : decide (v.log < 0) = false := by simp; omega
  by_cases hx : v.next < v.log
  · have HF : Hid (q = false) := Lib.hid (by rw [← HQ.out]; exact vrtB_no (fun h => by have h1 := h.1; have hl := HLL.out; omega))
    have hd : decide (v.next < v.log) = true := by simp; omega
    clear hx HQ
    go_enter Try.func9, Try.ntmps9
    go_wp2_with fail
    go_ret
    exact ⟨ret_b HF.out.symm, hB⟩
  have hd2 : decide (v.next < v.log) = false := by simp; omega
  by_cases hx : 1099511627776 < v.next
  · have HF : Hid (q = false) := Lib.hid (by rw [← HQ.out]; exact vrtB_no (fun h => by have h1 := h.1; have hl := HLL.out; omega))
    have hd : decide (1099511627776 < v.next) = true := by simp; omega
    clear hx HQ
    go_enter Try.func9, Try.ntmps9
    go_wp2_with fail
    go_ret
    exact ⟨ret_b HF.out.symm, hB⟩
  have hd3 : decide (1099511627776 < v.next) = false := by simp; omega
  by_cases hx : 64 < n
  · have HF : Hid (q = false) := Lib.hid (by rw [← HQ.out]; exact vrtB_no (fun h => by have h1 := h.1; have hl := HLL.out; omega))
    have hd : decide (64 < (n : Int)) = true := by simp; omega
    clear hx HQ
    go_enter Try.func9, Try.ntmps9
    go_wp2_with fail
    go_ret
    exact ⟨ret_b HF.out.symm, hB⟩
  have hd4 : decide (64 < (n : Int)) = false := by simp; omega
  have HN : Hid (0 ≤ v.log ∧ v.log ≤ v.next ∧ v.next ≤ 1099511627776 ∧ v.tabs.length ≤ 64) := Lib.hid (by have := HLL.out; omega)
  go_enter Try.func9, Try.ntmps9
  go_wp2_with fail
  generalize w.alloc (.cells (verC v (.slice A n c)) 26) = W at *
  clear q0 q1 q2 hd1 hd2 hd3 hd4
  go_loopw [3, 4, 6, 31] (fun _ _ _ v31 wr => VrRel w w.heap.size v (.slice A n c) 26 v31 wr) (fun _ _ _ v31 _ => n - (RowKit.intOf v31).toNat)
  case atStart => exact ⟨0, rfl, Nat.zero_le _, fun i t h => absurd h (Nat.not_lt_zero _), BK, hB⟩
  case round =>
    clear BK hB
    obtain ⟨k, rfl, hk, hall, BK, hB⟩ := hrel
    rw [HLL.out] at hk
    have HALL := Lib.hid hall
    clear hall
    by_cases hkn : k < n
    · have hkT : k < v.tabs.length := by have := HLL.out; omega
      obtain ⟨-, b, off, hA, hb, t0, t1⟩ := tab_at (HR.out.below hB) hkT
      subst hA
      have hget : v.tabs[k]? = some v.tabs[k] := List.getElem?_eq_getElem hkT
      obtain ⟨id, rp, hid2⟩ : ∃ id rp, v.tabs[k] = (id, rp) := ⟨_, _, rfl⟩
      rw [hid2] at t0 t1 hget
      simp only [] at t0 t1
      have HG := Lib.hid hget
      clear hid2 hget
      have q0 : wr.cell? ⟨w.heap.size, 0, none⟩ = some (.int .i64 v.log) := BK.cell 0
      have q1 : wr.cell? ⟨w.heap.size, 1, none⟩ = some (.int .i64 v.next) := BK.cell 1
      have BT := Blk.new wr 71 #[.int .i64 id, .bool rp]
      have ct := BT.cell
      have hbw : b < wr.heap.size := Nat.lt_of_lt_of_le hb hB.size
      have hgw := BK.lt
      have BKa := BK.alloc (.cells #[.int .i64 id, .bool rp] 71)
      have hBa := hB.alloc hB.size (.cells #[.int .i64 id, .bool rp] 71)
      have a0 : (wr.alloc (.cells #[.int .i64 id, .bool rp] 71)).cell? ⟨w.heap.size, 0, none⟩ = some (.int .i64 v.log) := BKa.cell 0
      have a1 : (wr.alloc (.cells #[.int .i64 id, .bool rp] 71)).cell? ⟨w.heap.size, 1, none⟩ = some (.int .i64 v.next) := BKa.cell 1
      have a2 : (wr.alloc (.cells #[.int .i64 id, .bool rp] 71)).cell? ⟨w.heap.size, 2, none⟩ = some (.slice (some ⟨b, off, none⟩) n c) := BKa.cell 2
      by_cases hx : id < 1
      · have HF : Hid (q = false) := Lib.hid (by rw [← HQ.out]; exact vrtB_no (fun h => by have h1 := h.2.1 k (id, rp) HG.out; unfold TabOk at h1; have h2 := h1.1; have h3 := h1.2.1; have h4 := h1.2.2.1; simp only [] at h2 h3 h4; omega))
        have hd : decide (id < 1) = true := by simp; omega
        clear hx
        go_wp2_with fail
        go_ret
        exact ⟨ret_b HF.out.symm, hBa⟩
      have hd1 : decide (id < 1) = false := by simp; omega
      by_cases hx : v.next < id
      · have HF : Hid (q = false) := Lib.hid (by rw [← HQ.out]; exact vrtB_no (fun h => by have h1 := h.2.1 k (id, rp) HG.out; unfold TabOk at h1; have h2 := h1.1; have h3 := h1.2.1; have h4 := h1.2.2.1; simp only [] at h2 h3 h4; omega))
        have hd : decide (v.next < id) = true := by simp; omega
        clear hx
        go_wp2_with fail
        go_ret
        exact ⟨ret_b HF.out.symm, hBa⟩
      have hd2 : decide (v.next < id) = false := by simp; omega
      by_cases hx : id = v.log
      · have HF : Hid (q = false) := Lib.hid (by rw [← HQ.out]; exact vrtB_no (fun h => by have h1 := h.2.1 k (id, rp) HG.out; unfold TabOk at h1; have h2 := h1.1; have h3 := h1.2.1; have h4 := h1.2.2.1; simp only [] at h2 h3 h4; omega))
        have hd : (id == v.log) = true := by simp [hx]
        clear hx
        go_wp2_with fail
        go_ret
        exact ⟨ret_b HF.out.symm, hBa⟩
      have hd3 : (id == v.log) = false := by simp [hx]
      have HID : Hid (1 ≤ id ∧ id ≤ v.next ∧ id ≠ v.log) := Lib.hid ⟨by omega, by omega, hx⟩
      have hkc : (k : Int) ≤ (c : Int) := by omega
      clear hx
      go_wp2_with fail
      obtain ⟨wo, hwo⟩ : ∃ wo, wo = wr := ⟨_, rfl⟩
      subst hwo
      clear q0 q1 a0 a1 a2 ct t0 t1 hd1 hd2 hd3
      generalize wo.heap.size = gt at *
      generalize wo.alloc (.cells #[.int .i64 id, .bool rp] 71) = W1 at *
      have hgtne : gt ≠ w.heap.size := by omega
      go_loopw [6, 58] (fun _ v58 wr => VrRel2 w w.heap.size gt v (.slice (some ⟨b, off, none⟩) n c) 26 71 id rp k v58 wr) (fun _ v58 _ => k - (RowKit.intOf v58).toNat)
      case atStart => exact ⟨0, rfl, Nat.zero_le _, fun i t h => absurd h (Nat.not_lt_zero _), BKa, BT, hBa⟩
      case round =>
        clear BKa hBa BT BK hB
        obtain ⟨j, rfl, hj, hnone, BK, BT, hB⟩ := hrel
        have HNONE := Lib.hid hnone
        clear hnone
        by_cases hjk : j < k
        · have hjT : j < v.tabs.length := by have := HLL.out; omega
          obtain ⟨-, b', off', hA', -, t0, t1⟩ := tab_at (HR.out.below hB) hjT
          injection hA' with hA'
          injection hA' with e1 e2
          subst e1 e2
          have hget : v.tabs[j]? = some v.tabs[j] := List.getElem?_eq_getElem hjT
          obtain ⟨id', rp', hid2⟩ : ∃ id rp, v.tabs[j] = (id, rp) := ⟨_, _, rfl⟩
          rw [hid2] at t0 t1 hget
          simp only [] at t0 t1
          have HG2 := Lib.hid hget
          clear hid2 hget
          have hbw2 : b < wr.heap.size := Nat.lt_of_lt_of_le hb hB.size
          have hgt2 := BT.lt
          have c0 : wr.cell? ⟨gt, 0, none⟩ = some (.int .i64 id) := BT.cell 0
          have BTa := BT.alloc (.cells #[.int .i64 id', .bool rp'] 71)
          have BKb := BK.alloc (.cells #[.int .i64 id', .bool rp'] 71)
          have hBb := hB.alloc hB.size (.cells #[.int .i64 id', .bool rp'] 71)
          have c1 : (wr.alloc (.cells #[.int .i64 id', .bool rp'] 71)).cell? ⟨gt, 0, none⟩ = some (.int .i64 id) := BTa.cell 0
          have BX := Blk.new wr 71 #[.int .i64 id', .bool rp']
          have cx := BX.cell
          by_cases hx : id' = id
          · have hd : (id' == id) = true := by simp [hx]
            have HF : Hid (q = false) := Lib.hid (by rw [← HQ.out]; exact vrtB_no (fun h => (h.2.1 k (id, rp) HG.out).2.2.2 j _ hjk HG2.out hx))
            clear hx
            go_wp2_with fail
            go_ret
            exact ⟨ret_b HF.out.symm, hBb⟩
          · have hd : (id' == id) = false := by simp [hx]
            have HNE := Lib.hid hx
            clear hx
            go_wp2_with fail
            go_roundw
            case rel => exact ⟨j + 1, by go_num, by omega, fun i u hi hu => by
              rcases Nat.lt_or_ge i j with h | h
              · exact HNONE.out i u h hu
              · have e : i = j := by omega
                subst e
                rw [HG2.out] at hu
                injection hu with hu
                subst hu
                exact HNE.out, BKb, BTa, hBb⟩
            case measure => simp [RowKit.intOf]; omega
        · have HTO : Hid (TabOk v k (id, rp)) := Lib.hid ⟨HID.out.1, HID.out.2.1, HID.out.2.2, fun i u hi hu => HNONE.out i u (by omega) hu⟩
          go_wp2_with fail
          go_roundw
          case rel => exact ⟨k + 1, by go_num, by rw [HLL.out]; omega, fun i u hi hu => by
              rcases Nat.lt_or_ge i k with h | h
              · exact HALL.out i u h hu
              · have e : i = k := by omega
                subst e
                rw [HG.out] at hu
                injection hu with hu
                subst hu
                exact HTO.out, BK, hB⟩
          case measure => simp [RowKit.intOf]; omega
    · have hkn : k = n := by omega
      subst hkn
      have c3 : wr.cell? ⟨w.heap.size, 3, none⟩ = some (.int .i64 v.fl.1) := BK.cell 3
      have c4 : wr.cell? ⟨w.heap.size, 4, none⟩ = some (.int .i64 v.fl.2.1) := BK.cell 4
      have c5 : wr.cell? ⟨w.heap.size, 5, none⟩ = some (.int .i64 v.fl.2.2) := BK.cell 5
      have c6 : wr.cell? ⟨w.heap.size, 6, none⟩ = some (.int .i64 v.fe.1) := BK.cell 6
      have c7 : wr.cell? ⟨w.heap.size, 7, none⟩ = some (.int .i64 v.fe.2.1) := BK.cell 7
      have c8 : wr.cell? ⟨w.heap.size, 8, none⟩ = some (.int .i64 v.fe.2.2) := BK.cell 8
      have c9 : wr.cell? ⟨w.heap.size, 9, none⟩ = some (.int .i64 v.se.1) := BK.cell 9
      have c10 : wr.cell? ⟨w.heap.size, 10, none⟩ = some (.int .i64 v.se.2.1) := BK.cell 10
      have c11 : wr.cell? ⟨w.heap.size, 11, none⟩ = some (.int .i64 v.se.2.2) := BK.cell 11
      have HA2 : Hid (∀ (i : Nat) (t : Int × Bool), v.tabs[i]? = some t → TabOk v i t) := Lib.hid (fun i t h => HALL.out i t (by have := (List.getElem?_eq_some_iff.1 h).1; have := HLL.out; omega) h)
      obtain ⟨s1, h1⟩ : ∃ s, sokB v.fl.1 v.fl.2.1 v.fl.2.2 = s := ⟨_, rfl⟩
      obtain ⟨s2, h2⟩ : ∃ s, sokB v.fe.1 v.fe.2.1 v.fe.2.2 = s := ⟨_, rfl⟩
      obtain ⟨s3, h3⟩ : ∃ s, sokB v.se.1 v.se.2.1 v.se.2.2 = s := ⟨_, rfl⟩
      have H1 := Lib.hid h1
      have H2 := Lib.hid h2
      have H3 := Lib.hid h3
      have C1 := Lib.hid (verse_right v.fl.1 v.fl.2.1 v.fl.2.2 wr)
      rw [h1] at C1
      have HV : Hid (q = (s1 && s2 && s3)) := Lib.hid (by
        rw [← HQ.out]
        cases hs : (s1 && s2 && s3)
        · refine vrtB_no (fun h => ?_)
          have e1 : s1 = true := by rw [← H1.out]; exact h.2.2.1
          have e2 : s2 = true := by rw [← H2.out]; exact h.2.2.2.1
          have e3 : s3 = true := by rw [← H3.out]; exact h.2.2.2.2
          rw [e1, e2, e3] at hs
          cases hs
        · simp only [Bool.and_eq_true] at hs
          exact vrtB_yes ⟨HN.out, HA2.out, by unfold SOk; rw [H1.out]; exact hs.1.1, by unfold SOk; rw [H2.out]; exact hs.1.2, by unfold SOk; rw [H3.out]; exact hs.2⟩)
      clear h1 h2 h3
      go_wp2_with fail
      refine C1.out.mono ?_
      clear C1
      rintro x w1 ⟨rfl, b1⟩
      replace BK := BK.below b1 BK.lt
      replace hB := hB.trans (b1.mono hB.size)
      clear b1 c3 c4 c5 c6 c7 c8 c9 c10 c11
      cases s1
      case false =>
        go_wp2_with fail
        go_ret
        exact ⟨ret_b (by rw [HV.out]; rfl), hB⟩
      have c6 : w1.cell? ⟨w.heap.size, 6, none⟩ = some (.int .i64 v.fe.1) := BK.cell 6
      have c7 : w1.cell? ⟨w.heap.size, 7, none⟩ = some (.int .i64 v.fe.2.1) := BK.cell 7
      have c8 : w1.cell? ⟨w.heap.size, 8, none⟩ = some (.int .i64 v.fe.2.2) := BK.cell 8
      have c9 : w1.cell? ⟨w.heap.size, 9, none⟩ = some (.int .i64 v.se.1) := BK.cell 9
      have c10 : w1.cell? ⟨w.heap.size, 10, none⟩ = some (.int .i64 v.se.2.1) := BK.cell 10
      have c11 : w1.cell? ⟨w.heap.size, 11, none⟩ = some (.int .i64 v.se.2.2) := BK.cell 11
      have C2 := Lib.hid (verse_right v.fe.1 v.fe.2.1 v.fe.2.2 w1)
      rw [H2.out] at C2
      go_wp2_with fail
      refine C2.out.mono ?_
      clear C2
      rintro x w2 ⟨rfl, b1⟩
      replace BK := BK.below b1 BK.lt
      replace hB := hB.trans (b1.mono hB.size)
      clear b1 c6 c7 c8 c9 c10 c11
      cases s2
      case false =>
        go_wp2_with fail
        go_ret
        exact ⟨ret_b (by rw [HV.out]; rfl), hB⟩
      have c9 : w2.cell? ⟨w.heap.size, 9, none⟩ = some (.int .i64 v.se.1) := BK.cell 9
      have c10 : w2.cell? ⟨w.heap.size, 10, none⟩ = some (.int .i64 v.se.2.1) := BK.cell 10
      have c11 : w2.cell? ⟨w.heap.size, 11, none⟩ = some (.int .i64 v.se.2.2) := BK.cell 11
      have C3 := Lib.hid (verse_right v.se.1 v.se.2.1 v.se.2.2 w2)
      rw [H3.out] at C3
      go_wp2_with fail
      refine C3.out.mono ?_
      clear C3
      rintro x w3 ⟨rfl, b1⟩
      replace hB := hB.trans (b1.mono hB.size)
      clear b1 c9 c10 c11
      go_wp2_with fail
      go_ret
      exact ⟨ret_b (by rw [HV.out]; rfl), hB⟩
end Go.Proofs.Ytedegdojbhegdaa
