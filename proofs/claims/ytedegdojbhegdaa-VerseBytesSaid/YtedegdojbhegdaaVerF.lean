/- Contract of the reference's Right: may there be such a version? -/
import Derived.Test.YtedegdojbhegdaaVerE
namespace Go.Proofs.Ytedegdojbhegdaa
open Go.RowKit Go.Sort

def VrRel3 (w : World) (g : Nat) (v : Ver) (tv : Value) (t : TypeId) (id : Int) (k : Nat) (vi : Value) (wr : World) : Prop :=
  ∃ j : Nat, vi = .int .i64 j ∧ j ≤ k ∧ (∀ (i : Nat) (u : Int × Bool), i < j → v.tabs[i]? = some u → u.1 ≠ id) ∧ Blk wr g t (verC v tv) ∧ Below w.heap.size w wr

set_option maxRecDepth 100000 in
set_option maxHeartbeats 4000000 in
theorem ref17_Right (v : Ver) (A : Option Addr) (n c : Nat) (w : World) (hr : Reads w w.heap.size 2 A n (v.tabs.flatMap tc)) (hn : n ≤ 1000000000) :
    Calls Try.prog 10 #[.agg (verC v (.slice A n c))] w fun e w' => e = .returned (.bool (vrtB v)) ∧ Below w.heap.size w w' := by
  have hll := tabs_n hr
  have BK := Blk.new w 29 (verC v (.slice A n c))
  have hB : Below w.heap.size w (w.alloc (.cells (verC v (.slice A n c)) 29)) := (Below.refl _ _).alloc (Nat.le_refl _) _
  obtain ⟨q, hq⟩ : ∃ q, vrtB v = q := ⟨_, rfl⟩
  have HQ := Lib.hid hq
  rw [hq]
  have HR := Lib.hid hr
  have HLL := Lib.hid hll
  have q0 : (w.alloc (.cells (verC v (.slice A n c)) 29)).cell? ⟨w.heap.size, 0, none⟩ = some (.int .i64 v.log) := BK.cell 0
  have q1 : (w.alloc (.cells (verC v (.slice A n c)) 29)).cell? ⟨w.heap.size, 1, none⟩ = some (.int .i64 v.next) := BK.cell 1
  have q2 : (w.alloc (.cells (verC v (.slice A n c)) 29)).cell? ⟨w.heap.size, 2, none⟩ = some (.slice A n c) := BK.cell 2
  clear hq hr hll
  by_cases hx : v.log < 0
  · have HF : Hid (q = false) := Lib.hid (by rw [← HQ.out]; exact vrtB_no (fun h => by have h1 := h.1; have hl := HLL.out; omega))
    have hd : decide (v.log < 0) = true := by simp; omega
    clear hx HQ
    go_enter Try.func10, Try.ntmps10
    go_wp2_with fail
    go_ret
    exact ⟨ret_b HF.out.symm, hB⟩
  have hd1 : decide (v.log < 0) = false := by simp; omega
  by_cases hx : v.next < v.log
  · have HF : Hid (q = false) := Lib.hid (by rw [← HQ.out]; exact vrtB_no (fun h => by have h1 := h.1; have hl := HLL.out; omega))
    have hd : decide (v.next < v.log) = true := by simp; omega
    clear hx HQ
    go_enter Try.func10, Try.ntmps10
    go_wp2_with fail
    go_ret
    exact ⟨ret_b HF.out.symm, hB⟩
  have hd2 : decide (v.next < v.log) = false := by simp; omega
  by_cases hx : 1099511627776 < v.next
  · have HF : Hid (q = false) := Lib.hid (by rw [← HQ.out]; exact vrtB_no (fun h => by have h1 := h.1; have hl := HLL.out; omega))
    have hd : decide (1099511627776 < v.next) = true := by simp; omega
    clear hx HQ
    go_enter Try.func10, Try.ntmps10
    go_wp2_with fail
    go_ret
    exact ⟨ret_b HF.out.symm, hB⟩
  have hd3 : decide (1099511627776 < v.next) = false := by simp; omega
  by_cases hx : 64 < n
  · have HF : Hid (q = false) := Lib.hid (by rw [← HQ.out]; exact vrtB_no (fun h => by have h1 := h.1; have hl := HLL.out; omega))
    have hd : decide (64 < (n : Int)) = true := by simp; omega
    clear hx HQ
    go_enter Try.func10, Try.ntmps10
    go_wp2_with fail
    go_ret
    exact ⟨ret_b HF.out.symm, hB⟩
  have hd4 : decide (64 < (n : Int)) = false := by simp; omega
  have HN : Hid (0 ≤ v.log ∧ v.log ≤ v.next ∧ v.next ≤ 1099511627776 ∧ v.tabs.length ≤ 64) := Lib.hid (by have := HLL.out; omega)
  have c3 : (w.alloc (.cells (verC v (.slice A n c)) 29)).cell? ⟨w.heap.size, 3, none⟩ = some (.int .i64 v.fl.1) := BK.cell 3
  have c4 : (w.alloc (.cells (verC v (.slice A n c)) 29)).cell? ⟨w.heap.size, 4, none⟩ = some (.int .i64 v.fl.2.1) := BK.cell 4
  have c5 : (w.alloc (.cells (verC v (.slice A n c)) 29)).cell? ⟨w.heap.size, 5, none⟩ = some (.int .i64 v.fl.2.2) := BK.cell 5
  obtain ⟨s1, h1⟩ : ∃ s, sokB v.fl.1 v.fl.2.1 v.fl.2.2 = s := ⟨_, rfl⟩
  obtain ⟨s2, h2⟩ : ∃ s, sokB v.fe.1 v.fe.2.1 v.fe.2.2 = s := ⟨_, rfl⟩
  obtain ⟨s3, h3⟩ : ∃ s, sokB v.se.1 v.se.2.1 v.se.2.2 = s := ⟨_, rfl⟩
  have H1 := Lib.hid h1
  have H2 := Lib.hid h2
  have H3 := Lib.hid h3
  have C1 := Lib.hid (ref17_stamp v.fl.1 v.fl.2.1 v.fl.2.2 (w.alloc (.cells (verC v (.slice A n c)) 29)))
  rw [h1] at C1
  clear h1 h2 h3
  go_enter Try.func10, Try.ntmps10
  go_wp2_with fail
  generalize (w.alloc (.cells (verC v (.slice A n c)) 29)) = W at *
  refine C1.out.mono ?_
  clear C1 q0 q1 q2 c3 c4 c5
  rintro x w1 ⟨rfl, b1⟩
  replace BK := BK.below b1 BK.lt
  replace hB := hB.trans (b1.mono hB.size)
  clear b1
  cases s1
  case false =>
    have HF : Hid (q = false) := Lib.hid (by rw [← HQ.out]; exact vrtB_no (fun h => by have := h.2.2.1; unfold SOk at this; rw [H1.out] at this; cases this))
    go_wp2_with fail
    go_ret
    exact ⟨ret_b HF.out.symm, hB⟩
  have c6 : w1.cell? ⟨w.heap.size, 6, none⟩ = some (.int .i64 v.fe.1) := BK.cell 6
  have c7 : w1.cell? ⟨w.heap.size, 7, none⟩ = some (.int .i64 v.fe.2.1) := BK.cell 7
  have c8 : w1.cell? ⟨w.heap.size, 8, none⟩ = some (.int .i64 v.fe.2.2) := BK.cell 8
  have C2 := Lib.hid (ref17_stamp v.fe.1 v.fe.2.1 v.fe.2.2 w1)
  rw [H2.out] at C2
  go_wp2_with fail
  refine C2.out.mono ?_
  clear C2 c6 c7 c8
  rintro x w2 ⟨rfl, b1⟩
  replace BK := BK.below b1 BK.lt
  replace hB := hB.trans (b1.mono hB.size)
  clear b1
  cases s2
  case false =>
    have HF : Hid (q = false) := Lib.hid (by rw [← HQ.out]; exact vrtB_no (fun h => by have := h.2.2.2.1; unfold SOk at this; rw [H2.out] at this; cases this))
    go_wp2_with fail
    go_ret
    exact ⟨ret_b HF.out.symm, hB⟩
  have c9 : w2.cell? ⟨w.heap.size, 9, none⟩ = some (.int .i64 v.se.1) := BK.cell 9
  have c10 : w2.cell? ⟨w.heap.size, 10, none⟩ = some (.int .i64 v.se.2.1) := BK.cell 10
  have c11 : w2.cell? ⟨w.heap.size, 11, none⟩ = some (.int .i64 v.se.2.2) := BK.cell 11
  have C3 := Lib.hid (ref17_stamp v.se.1 v.se.2.1 v.se.2.2 w2)
  rw [H3.out] at C3
  go_wp2_with fail
  refine C3.out.mono ?_
  clear C3 c9 c10 c11
  rintro x w3 ⟨rfl, b1⟩
  replace BK := BK.below b1 BK.lt
  replace hB := hB.trans (b1.mono hB.size)
  clear b1
  cases s3
  case false =>
    have HF : Hid (q = false) := Lib.hid (by rw [← HQ.out]; exact vrtB_no (fun h => by have := h.2.2.2.2; unfold SOk at this; rw [H3.out] at this; cases this))
    go_wp2_with fail
    go_ret
    exact ⟨ret_b HF.out.symm, hB⟩
  go_wp2_with fail
  clear hd1 hd2 hd3 hd4
  go_loopw [3, 4, 5] (fun v3 _ _ wr => VrRel w w.heap.size v (.slice A n c) 29 v3 wr) (fun v3 _ _ _ => n - (RowKit.intOf v3).toNat)
  case atStart => exact ⟨0, rfl, Nat.zero_le _, fun i t h => absurd h (Nat.not_lt_zero _), BK, hB⟩
  case round =>
    clear BK hB
    obtain ⟨k, rfl, hk, hall, BK, hB⟩ := hrel
    rw [HLL.out] at hk
    have HALL := Lib.hid hall
    have q2 : wr.cell? ⟨w.heap.size, 2, none⟩ = some (.slice A n c) := BK.cell 2
    clear hall
    by_cases hkn : k < n
    · have hkT : k < v.tabs.length := by have := HLL.out; omega
      obtain ⟨-, b, off, hA, hb, t0, t1⟩ := tab_at (HR.out.below hB) hkT
      subst hA
      have hget : v.tabs[k]? = some v.tabs[k] := List.getElem?_eq_getElem hkT
      obtain ⟨id, rp, hid2⟩ : ∃ id rp, v.tabs[k] = (id, rp) := ⟨_, _, rfl⟩
      rw [hid2] at t0 t1 hget
      simp only [] at t0 t1
      have HG := Lib.hid hget
      clear hid2 hget
      have q0 : wr.cell? ⟨w.heap.size, 0, none⟩ = some (.int .i64 v.log) := BK.cell 0
      have q1 : wr.cell? ⟨w.heap.size, 1, none⟩ = some (.int .i64 v.next) := BK.cell 1
      by_cases hx : id < 1
      · have HF : Hid (q = false) := Lib.hid (by rw [← HQ.out]; exact vrtB_no (fun h => by have h1 := h.2.1 k (id, rp) HG.out; unfold TabOk at h1; have h2 := h1.1; have h3 := h1.2.1; have h4 := h1.2.2.1; simp only [] at h2 h3 h4; omega))
        have hd : decide (id < 1) = true := by simp; omega
        clear hx
        go_wp2_with fail
        go_ret
        exact ⟨ret_b HF.out.symm, hB⟩
      have hd1 : decide (id < 1) = false := by simp; omega
      by_cases hx : v.next < id
      · have HF : Hid (q = false) := Lib.hid (by rw [← HQ.out]; exact vrtB_no (fun h => by have h1 := h.2.1 k (id, rp) HG.out; unfold TabOk at h1; have h2 := h1.1; have h3 := h1.2.1; have h4 := h1.2.2.1; simp only [] at h2 h3 h4; omega))
        have hd : decide (v.next < id) = true := by simp; omega
        clear hx
        go_wp2_with fail
        go_ret
        exact ⟨ret_b HF.out.symm, hB⟩
      have hd2 : decide (v.next < id) = false := by simp; omega
      by_cases hx : id = v.log
      · have HF : Hid (q = false) := Lib.hid (by rw [← HQ.out]; exact vrtB_no (fun h => by have h1 := h.2.1 k (id, rp) HG.out; unfold TabOk at h1; have h2 := h1.1; have h3 := h1.2.1; have h4 := h1.2.2.1; simp only [] at h2 h3 h4; omega))
        have hd : (id == v.log) = true := by simp [hx]
        clear hx
        go_wp2_with fail
        go_ret
        exact ⟨ret_b HF.out.symm, hB⟩
      have hd3 : (id == v.log) = false := by simp [hx]
      have HID : Hid (1 ≤ id ∧ id ≤ v.next ∧ id ≠ v.log) := Lib.hid ⟨by omega, by omega, hx⟩
      clear hx
      go_wp2_with fail
      obtain ⟨wo, hwo⟩ : ∃ wo, wo = wr := ⟨_, rfl⟩
      subst hwo
      clear q0 q1 q2 t0 t1 hd1 hd2 hd3
      go_loopw [5] (fun v5 wr => VrRel3 w w.heap.size v (.slice (some ⟨b, off, none⟩) n c) 29 id k v5 wr) (fun v5 _ => k - (RowKit.intOf v5).toNat)
      case atStart => exact ⟨0, rfl, Nat.zero_le _, fun i t h => absurd h (Nat.not_lt_zero _), BK, hB⟩
      case round =>
        clear BK hB
        obtain ⟨j, rfl, hj, hnone, BK, hB⟩ := hrel
        have HNONE := Lib.hid hnone
        clear hnone
        by_cases hjk : j < k
        · have hjT : j < v.tabs.length := by have := HLL.out; omega
          obtain ⟨-, b', off', hA', -, t0, t1⟩ := tab_at (HR.out.below hB) hjT
          injection hA' with hA'
          injection hA' with e1 e2
          subst e1 e2
          have hget : v.tabs[j]? = some v.tabs[j] := List.getElem?_eq_getElem hjT
          obtain ⟨id', rp', hid2⟩ : ∃ id rp, v.tabs[j] = (id, rp) := ⟨_, _, rfl⟩
          rw [hid2] at t0 t1 hget
          simp only [] at t0 t1
          have HG2 := Lib.hid hget
          have q2 : wr.cell? ⟨w.heap.size, 2, none⟩ = some (.slice (some ⟨b, off, none⟩) n c) := BK.cell 2
          have hjn : (j : Int) < (n : Int) := by omega
          clear hid2 hget
          by_cases hx : id' = id
          · have hd : (id' == id) = true := by simp [hx]
            have HF : Hid (q = false) := Lib.hid (by rw [← HQ.out]; exact vrtB_no (fun h => (h.2.1 k (id, rp) HG.out).2.2.2 j _ hjk HG2.out hx))
            clear hx
            go_wp2_with fail
            go_ret
            exact ⟨ret_b HF.out.symm, hB⟩
          · have hd : (id' == id) = false := by simp [hx]
            have HNE := Lib.hid hx
            clear hx
            go_wp2_with fail
            go_roundw
            case rel => exact ⟨j + 1, by go_num, by omega, fun i u hi hu => by
              rcases Nat.lt_or_ge i j with h | h
              · exact HNONE.out i u h hu
              · have e : i = j := by omega
                subst e
                rw [HG2.out] at hu
                injection hu with hu
                subst hu
                exact HNE.out, BK, hB⟩
            case measure => simp [RowKit.intOf]; omega
        · have HTO : Hid (TabOk v k (id, rp)) := Lib.hid ⟨HID.out.1, HID.out.2.1, HID.out.2.2, fun i u hi hu => HNONE.out i u (by omega) hu⟩
          go_wp2_with fail
          go_roundw
          case rel => exact ⟨k + 1, by go_num, by rw [HLL.out]; omega, fun i u hi hu => by
              rcases Nat.lt_or_ge i k with h | h
              · exact HALL.out i u h hu
              · have e : i = k := by omega
                subst e
                rw [HG.out] at hu
                injection hu with hu
                subst hu
                exact HTO.out, BK, hB⟩
          case measure => simp [RowKit.intOf]; omega
    · have hkn : k = n := by omega
      subst hkn
      have HV : Hid (q = true) := Lib.hid (by
        rw [← HQ.out]
        exact vrtB_yes ⟨HN.out, fun i t h => HALL.out i t (by have := (List.getElem?_eq_some_iff.1 h).1; have := HLL.out; omega) h, H1.out, H2.out, H3.out⟩)
      go_wp2_with fail
      go_ret
      exact ⟨ret_b HV.out.symm, hB⟩
end Go.Proofs.Ytedegdojbhegdaa
