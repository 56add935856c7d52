/- Contracts of slices.BinarySearchFunc over spans, and of a set's Has. -/
import Derived.Test.YtomefcngaclehaaSpnL
namespace Go.Proofs.Ytomefcngaclehaa
open Go.RowKit Go.Sort
attribute [local go_sem] lt_T lo_T not_ltT not_leT

section
variable {α : Type} {c : α → α → Int}
theorem plc_lt (k : α) : ∀ (l : List (Spn α)) (j : Nat) (hj : j < l.length), j < plc c l k → c l[j].1 k < 0
  | x :: l, 0, _, h => by
    by_cases h1 : c x.1 k < 0
    · exact h1
    · unfold plc at h
      simp [h1] at h
  | x :: l, j + 1, hj, h => by
    by_cases h1 : c x.1 k < 0
    · have e : plc c (x :: l) k = plc c l k + 1 := by unfold plc; simp [h1]
      exact plc_lt k l j (by simpa using hj) (by omega)
    · unfold plc at h
      simp [h1] at h
theorem plc_ge (hc : Cmp c) (k : α) : ∀ (l : List (Spn α)), Canon c l → ∀ (j : Nat) (hj : j < l.length), plc c l k ≤ j → ¬ c l[j].1 k < 0
  | x :: l, hl, j, hj, h => by
    by_cases h1 : c x.1 k < 0
    · have e : plc c (x :: l) k = plc c l k + 1 := by unfold plc; simp [h1]
      cases j with
      | zero => omega
      | succ j => exact plc_ge hc k l hl.tail j (by simpa using hj) (by omega)
    · cases j with
      | zero => exact h1
      | succ j =>
        have hj' : j < l.length := by simpa using hj
        have hx := hl.some_ x (List.mem_cons_self ..)
        have h2 := (List.pairwise_cons.1 hl.up).1 l[j] (List.getElem_mem (by simpa using hj))
        have h3 := hc.lt_le hx (by omega : c x.2 l[j].1 ≤ 0)
        have h4 := hc.anti x.1 k
        have h5 := hc.le_lt (by omega : c k x.1 ≤ 0) h3
        have h6 := hc.anti k l[j].1
        show ¬ c l[j].1 k < 0
        omega
end

def hitL (l : List Sp) (key : ByteArray) (p : Nat) : Bool := match l[p]? with | some s => decide (cmpT s.1 key = 0) | none => false
def lastL (l : List Sp) (key : ByteArray) (p : Nat) : Bool := match (l.take p).getLast? with | some s => inS cmpT s key | none => false
theorem has_hit (l : List Sp) (key : ByteArray) : hasL cmpT l key = (hitL l key (plc cmpT l key) || lastL l key (plc cmpT l key)) := by
  unfold hasL hitL lastL
  generalize plc cmpT l key = p
  cases l[p]? <;> cases (l.take p).getLast? <;> rfl

set_option maxRecDepth 100000 in
set_option maxHeartbeats 2000000 in
theorem spans_Search (A : Option Addr) (n c : Nat) (l : List Sp) (key : ByteArray) (w : World) (hr : RdP w A l) (hnl : l.length = n) (hC : Canon cmpT l) (hn : n ≤ 1000000) :
    Calls Try.prog 54 #[.slice A n c, .string key, .func (.func 55) #[] #[]] w fun e w' => e = .returned (.tuple #[.int .i64 (plc cmpT l key), .bool (hitL l key (plc cmpT l key))]) ∧ Below w.heap.size w w' := by
  have hlt := plc_lt (c := cmpT) key l
  have hge := plc_ge cmp_T key l hC
  have hle := plc_le (c := cmpT) l key
  rw [hnl] at hle
  obtain ⟨q, hq⟩ : ∃ q, (hitL l key (plc cmpT l key)) = q := ⟨_, rfl⟩
  rw [hq]
  obtain ⟨p, hp⟩ : ∃ p, plc cmpT l key = p := ⟨_, rfl⟩
  rw [hp] at hlt hge hle hq ⊢
  have HR := Lib.hid hr
  have HNL := Lib.hid hnl
  have HLT := Lib.hid hlt
  have HGE := Lib.hid hge
  have HQ := Lib.hid hq
  clear hr hnl hC hlt hge hq hp
  go_enter Try.func54, Try.ntmps54
  go_wp2_with fail
  go_loopw [9, 10, 11] (fun v9 v10 _ wr => ∃ i j : Nat, v9 = .int .i64 i ∧ v10 = .int .i64 j ∧ i ≤ p ∧ p ≤ j ∧ j ≤ n ∧ Below w.heap.size w wr) (fun v9 v10 _ _ => (intOf v10).toNat - (intOf v9).toNat)
  case atStart => exact ⟨0, n, rfl, rfl, Nat.zero_le _, hle, Nat.le_refl _, Below.refl _ _⟩
  case round =>
    obtain ⟨i, j, rfl, rfl, hi, hj, hjn, hB⟩ := hrel
    by_cases hij : i < j
    · obtain ⟨h, hh⟩ : ∃ h, (i + j) / 2 = h := ⟨_, rfl⟩
      have hh1 : i ≤ h := by omega
      have hh2 : h < j := by omega
      have hhl : h < l.length := by have := HNL.out; omega
      obtain ⟨b, off, rfl, hb, hc1⟩ := (HR.out.below hB).at_ (by omega)
      obtain ⟨p1, p2⟩ := hc1 h hhl
      have H3 := Lib.hid (HLT.out h hhl)
      have H4 := Lib.hid (HGE.out h hhl)
      obtain ⟨⟨x1, x2⟩, hx⟩ : ∃ x, l[h]'hhl = x := ⟨_, rfl⟩
      rw [hx] at p1 p2 H3 H4
      simp only at p1 p2 H3 H4
      have HC := Lib.hid (set_Has1 x1 x2 key wr)
      obtain ⟨cz, hcz⟩ : ∃ cz, cmpT x1 key = cz := ⟨_, rfl⟩
      rw [hcz] at HC H3 H4
      have HH := Lib.hid hh
      clear hc1 hx hcz hh
      go_upto_region 5 with fail
      rw [show ((i : Int) + (j : Int)) / 2 = (h : Int) by have := HH.out; omega]
      go_wp2_with fail
      refine HC.out.mono ?_
      rintro e w1 ⟨rfl, b1⟩
      have hB1 := hB.trans (b1.mono hB.size)
      by_cases hcz : cz < 0
      · have hhp : h < p := by
          by_cases h9 : h < p
          · exact h9
          · have := H4.out (by omega)
            omega
        go_wp2_with fail
        go_roundw
        case rel => exact ⟨h + 1, j, by go_num, rfl, by omega, hj, hjn, hB1⟩
        case measure => simp [intOf]; omega
      · have hhp : p ≤ h := by
          by_cases h9 : h < p
          · exact absurd (H3.out h9) hcz
          · omega
        go_wp2_with fail
        go_roundw
        case rel => exact ⟨i, h, rfl, rfl, hi, hhp, by omega, hB1⟩
        case measure => simp [intOf]; omega
    · have hip : i = p := by omega
      have hjp : j = p := by omega
      subst hip
      subst hjp
      by_cases hpn : j < n
      · have hpl : j < l.length := by have := HNL.out; omega
        obtain ⟨b, off, rfl, hb, hc1⟩ := (HR.out.below hB).at_ (by omega)
        obtain ⟨p1, p2⟩ := hc1 j hpl
        obtain ⟨⟨x1, x2⟩, hx⟩ : ∃ x, l[j]'hpl = x := ⟨_, rfl⟩
        have hqq := HQ.out
        unfold hitL at hqq
        rw [List.getElem?_eq_getElem hpl, hx] at hqq
        rw [hx] at p1 p2
        simp only at p1 p2 hqq
        have HC := Lib.hid (set_Has1 x1 x2 key wr)
        obtain ⟨cz, hcz⟩ : ∃ cz, cmpT x1 key = cz := ⟨_, rfl⟩
        rw [hcz] at HC hqq
        have HQQ := Lib.hid hqq
        clear hc1 hx hcz hqq
        go_wp2_with fail
        refine HC.out.mono ?_
        rintro e w1 ⟨rfl, b1⟩
        have hB1 := hB.trans (b1.mono hB.size)
        by_cases h0 : cz = 0
        · have hd : (cz == 0) = true := by simp [h0]
          have HT : Hid (true = q) := Lib.hid (by rw [← HQQ.out]; exact (decide_eq_true h0).symm)
          clear h0
          go_wp2_with fail
          go_ret2
          exact ⟨by rw [← HT.out]; rfl, hB1⟩
        · have hd : (cz == 0) = false := by simp [h0]
          have HT : Hid (false = q) := Lib.hid (by rw [← HQQ.out]; exact (decide_eq_false h0).symm)
          clear h0
          go_wp2_with fail
          go_ret2
          exact ⟨by rw [← HT.out]; rfl, hB1⟩
      · have HT : Hid (false = q) := Lib.hid (by
          have h := HQ.out
          unfold hitL at h
          rw [List.getElem?_eq_none (by have := HNL.out; omega)] at h
          exact h)
        go_wp2_with fail
        go_ret2
        exact ⟨by rw [← HT.out]; rfl, hB⟩

set_option maxRecDepth 100000 in
set_option maxHeartbeats 2000000 in
theorem set_Has (A : Option Addr) (n c : Nat) (l : List Sp) (key : ByteArray) (w : World) (hr : RdP w A l) (hnl : l.length = n) (hC : Canon cmpT l) (hn : n ≤ 1000000) :
    Calls Try.prog 24 #[.agg #[.slice A n c], .string key] w fun e w' => e = .returned (.bool (inL cmpT l key)) ∧ Below w.heap.size w w' := by
  rw [← has_in cmp_T key l hC]
  have B0 := Blk.new w 43 #[.slice A n c]
  have bA := (Below.refl w.heap.size w).alloc (Nat.le_refl _) (.cells #[.slice A n c] 43)
  have hle := plc_le (c := cmpT) l key
  rw [hnl] at hle
  have HC := Lib.hid (spans_Search A n c l key _ (hr.below bA) hnl hC hn)
  rw [has_hit]
  obtain ⟨q, hq⟩ : ∃ q, (hitL l key (plc cmpT l key)) = q := ⟨_, rfl⟩
  rw [hq] at HC ⊢
  obtain ⟨p, hp⟩ : ∃ p, plc cmpT l key = p := ⟨_, rfl⟩
  rw [hp] at HC hle ⊢
  have HR := Lib.hid (hr.below bA)
  have HNL := Lib.hid hnl
  clear hr hnl hC hq hp
  have q0 := B0.cell 0
  obtain ⟨r, hr⟩ : ∃ r, (q || lastL l key p) = r := ⟨_, rfl⟩
  have HRR := Lib.hid hr
  rw [hr]
  clear hr
  go_enter Try.func24, Try.ntmps24
  go_wp2_with fail
  generalize w.alloc (.cells #[.slice A n c] 43) = W at *
  refine HC.out.mono ?_
  rintro e w1 ⟨rfl, b1⟩
  have hB1 := bA.trans (b1.mono bA.size)
  have q1 := (B0.below b1 B0.lt).cell 0
  have HR1 := Lib.hid (HR.out.below b1)
  clear q0
  cases q with
  | true =>
    have HT : Hid (true = r) := Lib.hid (by rw [← HRR.out]; rfl)
    go_wp2_with fail
    go_ret
    exact ⟨ret_bool' HT.out, hB1⟩
  | false =>
    rcases Nat.eq_zero_or_pos p with rfl | h0
    · have HT : Hid (false = r) := Lib.hid (by rw [← HRR.out]; rfl)
      go_wp2_with fail
      go_ret
      exact ⟨ret_bool' HT.out, hB1⟩
    · obtain ⟨m, rfl⟩ : ∃ m, p = m + 1 := ⟨p - 1, by omega⟩
      have hml : m < l.length := by have := HNL.out; omega
      obtain ⟨b, off, rfl, hb, hc1⟩ := HR1.out.at_ (by omega)
      obtain ⟨p1, p2⟩ := hc1 m hml
      obtain ⟨⟨x1, x2⟩, hx⟩ : ∃ x, l[m]'hml = x := ⟨_, rfl⟩
      have HT : Hid (inS cmpT (x1, x2) key = r) := Lib.hid (by
        rw [← HRR.out, Bool.false_or, lastL, List.take_succ_eq_append_getElem hml, hx]
        simp)
      rw [hx] at p1 p2
      simp only at p1 p2
      have HC2 := Lib.hid (span_Has x1 x2 key w1)
      rw [HT.out] at HC2
      have hd1 : ((m + 1 : Nat) : Int) - 1 = (m : Int) := by omega
      clear hc1 hx
      go_wp2_with fail
      refine HC2.out.mono ?_
      rintro e w2 ⟨rfl, b2⟩
      have hB2 := hB1.trans (b2.mono hB1.size)
      go_wp2_with fail
      go_ret
      exact ⟨rfl, hB2⟩
end Go.Proofs.Ytomefcngaclehaa
