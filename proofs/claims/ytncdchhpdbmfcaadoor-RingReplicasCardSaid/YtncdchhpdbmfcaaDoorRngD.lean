/- Contracts of slices.BinarySearchFunc over places, of a ring's Replicas, Has, Nodes, Copies, Ranges. -/
import Derived.Test.YtncdchhpdbmfcaaDoorRngC
import Derived.Test.YtncdchhpdbmfcaaDoorFuncsA
import Derived.Test.YtncdchhpdbmfcaaDoorIntsA
namespace Go.Proofs.YtncdchhpdbmfcaaDoor
open Go.RowKit Go.Sort

def UpU (l : List Pl) : Prop := l.Pairwise fun a b => a.1 ≤ b.1
theorem sortU_upU (l : List Pl) : UpU (sortU l) := (sortU_up l).imp fun {a b} h => by
  unfold cmpPl orL at h
  have h2 : cmpI (a.1 : Int) (b.1 : Int) ≤ 0 := by
    split at h
    · omega
    · exact h
  unfold cmpI at h2
  by_cases h3 : (a.1 : Int) < (b.1 : Int)
  · omega
  · rw [if_neg h3] at h2
    by_cases h4 : (b.1 : Int) < (a.1 : Int)
    · rw [if_pos h4] at h2; omega
    · omega
/-- The first place at x or behind it. -/
def plcU (l : List Pl) (x : Nat) : Nat := (l.takeWhile fun p => decide (p.1 < x)).length
theorem plcU_le (l : List Pl) (x : Nat) : plcU l x ≤ l.length := (List.takeWhile_sublist _).length_le
theorem plcU_lt (x : Nat) : ∀ (l : List Pl) (j : Nat) (hj : j < l.length), j < plcU l x → cmpI (l[j].1 : Int) (x : Int) < 0
  | p :: l, 0, _, h => by
    by_cases h1 : p.1 < x
    · show cmpI (p.1 : Int) (x : Int) < 0
      unfold cmpI
      rw [if_pos (by omega)]
      omega
    · unfold plcU at h
      simp [h1] at h
  | p :: l, j + 1, hj, h => by
    by_cases h1 : p.1 < x
    · have e : plcU (p :: l) x = plcU l x + 1 := by unfold plcU; simp [h1]
      exact plcU_lt x l j (by simpa using hj) (by omega)
    · unfold plcU at h
      simp [h1] at h
theorem plcU_ge (x : Nat) : ∀ (l : List Pl), UpU l → ∀ (j : Nat) (hj : j < l.length), plcU l x ≤ j → ¬ cmpI (l[j].1 : Int) (x : Int) < 0
  | p :: l, hl, j, hj, h => by
    have hge : ∀ n : Nat, ¬ n < x → ¬ cmpI (n : Int) (x : Int) < 0 := fun n h1 => by
      unfold cmpI
      rw [if_neg (by omega)]
      split <;> omega
    by_cases h1 : p.1 < x
    · have e : plcU (p :: l) x = plcU l x + 1 := by unfold plcU; simp [h1]
      cases j with
      | zero => omega
      | succ j => exact plcU_ge x l (List.pairwise_cons.1 hl).2 j (by simpa using hj) (by omega)
    · cases j with
      | zero => exact hge p.1 h1
      | succ j =>
        have hj' : j < l.length := by simpa using hj
        have h2 := (List.pairwise_cons.1 hl).1 l[j] (List.getElem_mem hj')
        show ¬ cmpI (l[j].1 : Int) (x : Int) < 0
        exact hge _ (by omega)
def hitU (l : List Pl) (x p : Nat) : Bool := match l[p]? with | some s => decide (cmpI (s.1 : Int) (x : Int) = 0) | none => false

set_option maxRecDepth 100000 in
set_option maxHeartbeats 2000000 in
theorem places_Search (A : Option Addr) (n c : Nat) (l : List Pl) (key : Nat) (w : World) (hr : RdU w A l) (hnl : l.length = n) (hC : UpU l) (hn : n ≤ 1000000) :
    Calls Tryd.prog 34 #[.slice A n c, .int .u32 (key : Int), .func (.func 35) #[] #[]] w fun e w' => e = .returned (.tuple #[.int .i64 (plcU l key), .bool (hitU l key (plcU l key))]) ∧ Below w.heap.size w w' := by
  have hlt := plcU_lt key l
  have hge := plcU_ge key l hC
  have hle := plcU_le l key
  rw [hnl] at hle
  obtain ⟨q, hq⟩ : ∃ q, (hitU l key (plcU l key)) = q := ⟨_, rfl⟩
  rw [hq]
  obtain ⟨p, hp⟩ : ∃ p, plcU l key = p := ⟨_, rfl⟩
  rw [hp] at hlt hge hle hq ⊢
  have HR := Lib.hid hr
  have HNL := Lib.hid hnl
  have HLT := Lib.hid hlt
  have HGE := Lib.hid hge
  have HQ := Lib.hid hq
  clear hr hnl hC hlt hge hq hp
  go_enter Tryd.func34, Tryd.ntmps34
  go_wp2_with fail
  go_loopw [9, 10, 11] (fun v9 v10 _ wr => ∃ i j : Nat, v9 = .int .i64 i ∧ v10 = .int .i64 j ∧ i ≤ p ∧ p ≤ j ∧ j ≤ n ∧ Below w.heap.size w wr) (fun v9 v10 _ _ => (intOf v10).toNat - (intOf v9).toNat)
  case atStart => exact ⟨0, n, rfl, rfl, Nat.zero_le _, hle, Nat.le_refl _, Below.refl _ _⟩
  case round =>
    obtain ⟨i, j, rfl, rfl, hi, hj, hjn, hB⟩ := hrel
    by_cases hij : i < j
    · obtain ⟨h, hh⟩ : ∃ h, (i + j) / 2 = h := ⟨_, rfl⟩
      have hh1 : i ≤ h := by omega
      have hh2 : h < j := by omega
      have hhl : h < l.length := by have := HNL.out; omega
      obtain ⟨b, off, rfl, hb, hc1⟩ := (HR.out.below hB).at_ (by omega)
      obtain ⟨p1, p2⟩ := hc1 h hhl
      have H3 := Lib.hid (HLT.out h hhl)
      have H4 := Lib.hid (HGE.out h hhl)
      obtain ⟨⟨x1, x2⟩, hx⟩ : ∃ x, l[h]'hhl = x := ⟨_, rfl⟩
      rw [hx] at p1 p2 H3 H4
      simp only at p1 p2 H3 H4
      have HC := Lib.hid (rep_cmp x1 x2 key wr)
      obtain ⟨cz, hcz⟩ : ∃ cz, cmpI (x1 : Int) (key : Int) = cz := ⟨_, rfl⟩
      rw [hcz] at HC H3 H4
      have HH := Lib.hid hh
      clear hc1 hx hcz hh
      go_upto_region 5 with fail
      rw [show ((i : Int) + (j : Int)) / 2 = (h : Int) by have := HH.out; omega]
      go_wp2_with fail
      refine HC.out.mono ?_
      rintro e w1 ⟨rfl, b1⟩
      have hB1 := hB.trans (b1.mono hB.size)
      by_cases hcz : cz < 0
      · have hhp : h < p := by
          by_cases h9 : h < p
          · exact h9
          · have := H4.out (by omega)
            omega
        go_wp2_with fail
        go_roundw
        case rel => exact ⟨h + 1, j, by go_num, rfl, by omega, hj, hjn, hB1⟩
        case measure => simp [intOf]; omega
      · have hhp : p ≤ h := by
          by_cases h9 : h < p
          · exact absurd (H3.out h9) hcz
          · omega
        go_wp2_with fail
        go_roundw
        case rel => exact ⟨i, h, rfl, rfl, hi, hhp, by omega, hB1⟩
        case measure => simp [intOf]; omega
    · have hip : i = p := by omega
      have hjp : j = p := by omega
      subst hip
      subst hjp
      by_cases hpn : j < n
      · have hpl : j < l.length := by have := HNL.out; omega
        obtain ⟨b, off, rfl, hb, hc1⟩ := (HR.out.below hB).at_ (by omega)
        obtain ⟨p1, p2⟩ := hc1 j hpl
        obtain ⟨⟨x1, x2⟩, hx⟩ : ∃ x, l[j]'hpl = x := ⟨_, rfl⟩
        have hqq := HQ.out
        unfold hitU at hqq
        rw [List.getElem?_eq_getElem hpl, hx] at hqq
        rw [hx] at p1 p2
        simp only at p1 p2 hqq
        have HC := Lib.hid (rep_cmp x1 x2 key wr)
        obtain ⟨cz, hcz⟩ : ∃ cz, cmpI (x1 : Int) (key : Int) = cz := ⟨_, rfl⟩
        rw [hcz] at HC hqq
        have HQQ := Lib.hid hqq
        clear hc1 hx hcz hqq
        go_wp2_with fail
        refine HC.out.mono ?_
        rintro e w1 ⟨rfl, b1⟩
        have hB1 := hB.trans (b1.mono hB.size)
        by_cases h0 : cz = 0
        · have hd : (cz == 0) = true := by simp [h0]
          have HT : Hid (true = q) := Lib.hid (by rw [← HQQ.out]; exact (decide_eq_true h0).symm)
          clear h0
          go_wp2_with fail
          go_ret2
          exact ⟨by rw [← HT.out]; rfl, hB1⟩
        · have hd : (cz == 0) = false := by simp [h0]
          have HT : Hid (false = q) := Lib.hid (by rw [← HQQ.out]; exact (decide_eq_false h0).symm)
          clear h0
          go_wp2_with fail
          go_ret2
          exact ⟨by rw [← HT.out]; rfl, hB1⟩
      · have HT : Hid (false = q) := Lib.hid (by
          have h := HQ.out
          unfold hitU at h
          rw [List.getElem?_eq_none (by have := HNL.out; omega)] at h
          exact h)
        go_wp2_with fail
        go_ret2
        exact ⟨by rw [← HT.out]; rfl, hB⟩


/-- A node more, if there are too few, and it isn't there. -/
def stepR (c : Int) (out : List Int) (n : Int) : List Int := if (out.length : Int) < c ∧ (out.any fun y => n == y) = false then out ++ [n] else out
/-- The node of the k-th place from one on, around. -/
def nodeAt (P : List Pl) (f k : Nat) : Int := ((P[(f + k) % P.length]?).map fun p => (p.2 : Int)).getD 0
def replR (P : List Pl) (f : Nat) (c : Int) (m : Nat) : List Int := ((List.range m).map (nodeAt P f)).foldl (stepR c) []
theorem replR_succ (P : List Pl) (f : Nat) (c : Int) (m : Nat) : replR P f c (m + 1) = stepR c (replR P f c m) (nodeAt P f m) := by
  unfold replR
  rw [List.range_succ, List.map_append, List.foldl_append]
  rfl
theorem replR_len (P : List Pl) (f : Nat) (c : Int) : ∀ m, (replR P f c m).length ≤ m
  | 0 => Nat.le_refl _
  | m + 1 => by
    have h := replR_len P f c m
    rw [replR_succ]
    unfold stepR
    split
    · rw [List.length_append]; simp; omega
    · omega
/-- The nodes that have a range. -/
def repls (S : List ByteArray) (P : List Pl) (c : Int) (i : Int) : List Int := if i < 0 ∨ (S.length : Int) ≤ i then [] else replR P (plcU P (hU (rest (S[i.toNat]?.getD ⟨#[]⟩) 0) 0)) c P.length
theorem vi_eq (x : Int) : vi x = .int .i64 x := rfl

set_option maxRecDepth 100000 in
set_option maxHeartbeats 8000000 in
theorem ring_Replicas (g : Nat) (S : List ByteArray) (nodes copies : Int) (P : List Pl) (i : Int) (w : World) (hr : RingAt w g S nodes copies P) (hP : UpU P) (hS : S.length ≤ 100) (hPl : P.length ≤ 100) (hi1 : -9223372036854775808 ≤ i) (hi2 : i ≤ 9223372036854775807) :
    Calls Tryd.prog 9 #[.pointer (some ⟨g, 0, none⟩), .int .i64 i] w fun e w' => ∃ v, e = .returned v ∧ OwnI w' w.heap.size v (repls S P copies i) ∧ Below w.heap.size w w' := by
  obtain ⟨A, B, c, d, hb, hs, hp⟩ := hr.ring
  obtain ⟨ns, hns⟩ : ∃ ns, S.length = ns := ⟨_, rfl⟩
  obtain ⟨np, hnp⟩ : ∃ np, P.length = np := ⟨_, rfl⟩
  rw [hns] at hb hs hS
  rw [hnp] at hb hPl
  have q0 := hb.cell 0
  have q2 := hb.cell 2
  have q3 := hb.cell 3
  have HBL := Lib.hid hb
  have HS := Lib.hid hs
  have HP := Lib.hid hp
  have HNS := Lib.hid hns
  have HNP := Lib.hid hnp
  by_cases hi : 0 ≤ i ∧ i < ns
  · obtain ⟨k0, hk0⟩ : ∃ k : Nat, i = k := ⟨i.toNat, by omega⟩
    subst hk0
    have hkS : k0 < S.length := by omega
    obtain ⟨s, hs0⟩ : ∃ s, S[k0]'hkS = s := ⟨_, rfl⟩
    obtain ⟨b, off, rfl, hbb, hall⟩ := Reads.form hs (by omega)
    have e1 := hall k0 (.string s) (by rw [List.getElem?_map, List.getElem?_eq_getElem hkS, hs0]; rfl)
    have hrep : repls S P copies (k0 : Int) = replR P (plcU P (hU (rest s 0) 0)) copies np := by
      unfold repls
      rw [if_neg (by omega), show (k0 : Int).toNat = k0 by omega, List.getElem?_eq_getElem hkS, hs0, hnp]
      rfl
    rw [hrep]
    have HU := Lib.hid (ring_sum s 0 (by omega) w)
    obtain ⟨u, hu⟩ : ∃ u, hU (rest s 0) 0 = u := ⟨_, rfl⟩
    rw [hu] at HU ⊢
    have hfl := plcU_le P u
    have HF := Lib.hid (fun (W : World) (h : RdU W B P) => places_Search B np d P u W h hnp hP (by omega))
    obtain ⟨f, hf⟩ : ∃ f, plcU P u = f := ⟨_, rfl⟩
    rw [hf] at HF hfl ⊢
    rw [hnp] at hfl
    obtain ⟨R, hR⟩ : ∃ R, replR P f copies np = R := ⟨_, rfl⟩
    have HRR := Lib.hid hR
    rw [hR]
    obtain ⟨i1, i2⟩ := hi
    clear hrep hu hf hR hall hs hp hb hns hnp hP hs0
    go_enter Tryd.func9, Tryd.ntmps9
    go_wp2_with fail
    refine HU.out.mono ?_
    rintro e w1 ⟨rfl, b1⟩
    have BR1 := HBL.out.below b1 HBL.out.lt
    have HP1 := Lib.hid (HP.out.below b1)
    replace q3 := BR1.cell 3
    clear q0 q2 e1
    go_wp2_with fail
    refine (HF.out w1 HP1.out).mono ?_
    rintro e w2 ⟨rfl, b2⟩
    have BR2 := BR1.below b2 BR1.lt
    have HP2 := Lib.hid (HP1.out.below b2)
    have hB2 := b1.trans (b2.mono b1.size)
    replace q3 := BR2.cell 3
    clear BR1 b1 b2
    go_wp2_with fail
    clear q3
    have O0 : OwnI w2 w2.heap.size (.slice none 0 0) [] := OwnI.nil_ _ _
    go_loopw [8, 9, 10, 44] (fun v8 _ _ v44 wr => ∃ (k : Nat) (T : List Int), v44 = .int .i64 k ∧ k ≤ np ∧ replR P f copies k = T ∧ OwnI wr w2.heap.size v8 T ∧ Below w2.heap.size w2 wr) (fun _ _ _ v44 _ => np - (intOf v44).toNat)
    case atStart => exact ⟨0, [], rfl, Nat.zero_le _, rfl, O0, Below.refl _ _⟩
    case round =>
      clear O0
      obtain ⟨k, T, rfl, hk, hT, hO, hB⟩ := hrel
      have hTl := replR_len P f copies k
      rw [hT] at hTl
      have HT := Lib.hid hT
      have HO := Lib.hid hO
      clear hT hO
      by_cases hkn : k < np
      · obtain ⟨q, hq⟩ : ∃ q, (f + k) % np = q := ⟨_, rfl⟩
        have hqn : q < np := by rw [← hq]; exact Nat.mod_lt _ (by omega)
        have hqP : q < P.length := by have := HNP.out; omega
        obtain ⟨bp, op, rfl, hbp, hc⟩ := HP2.out.at_ (by omega)
        obtain ⟨p1, p2⟩ := hc q hqP
        obtain ⟨⟨t1, t2⟩, hx⟩ : ∃ x, P[q]'hqP = x := ⟨_, rfl⟩
        rw [hx] at p1 p2
        simp only at p1 p2
        have hnode : nodeAt P f k = (t2 : Int) := by
          unfold nodeAt
          rw [HNP.out, hq, List.getElem?_eq_getElem hqP, hx]
          rfl
        have HST : Hid (replR P f copies (k + 1) = stepR copies T (t2 : Int)) := Lib.hid (by rw [replR_succ, HT.out, hnode])
        have BR3 := BR2.below hB BR2.lt
        have c0 := cell_regrown (BR3.cell 3)
        have c1 := cell_regrown (hb_cell hB p2)
        have hmod : ((f : Int) + (k : Int)).tmod (np : Int) = (q : Int) := by
          rw [← hq]
          rw [Int.tmod_eq_emod_of_nonneg (by omega)]
          first | norm_cast | exact (Int.natCast_emod _ _).symm
        clear hc hx hnode p1 p2
        go_upto_region 9 with fail
        refine wp_region_quiet_below (by kernel_rfl) (by kernel_rfl) ?_
        repeat (go_big_quiet_step (fail))
        refine wpQuiet_nil ?_
        rintro w4 ⟨⟨dq, osq⟩, hw4⟩
        have b4 : Below wr.heap.size wr w4 := by rw [hw4]; exact below_regrown wr dq osq
        clear hw4
        have BR4 := BR3.below b4 BR3.lt
        have hB4 := hB.trans (b4.mono hB.size)
        have HO4 := Lib.hid (HO.out.below b4)
        obtain ⟨zl, hzl⟩ : ∃ z, T.length = z := ⟨_, rfl⟩
        obtain ⟨A8, c8, hv8, -, -, hr8⟩ := HO4.out.reads
        rw [hzl] at hv8 hr8
        subst hv8
        have HR8 := Lib.hid hr8
        have HZL := Lib.hid hzl
        have hzn : zl ≤ 1000000000 := by omega
        obtain ⟨qq, hqq⟩ : ∃ qq, (T.any fun y => (t2 : Int) == y) = qq := ⟨_, rfl⟩
        have hst := HST.out
        unfold stepR at hst
        rw [hzl, hqq] at hst
        have HQQ := Lib.hid hqq
        have q2 := BR4.cell 2
        have hs4 := hB4.size
        clear hr8 hzl hqq HST c0 c1 hmod BR3
        by_cases hc1 : (zl : Int) < copies
        · have HCN := Lib.hid (ints_Contains A8 zl c8 T w4 (t2 : Int) HR8.out (by omega))
          rw [HQQ.out] at HCN
          cases qq with
          | true =>
            rw [if_neg (fun h => by cases h.2)] at hst
            have HST := Lib.hid hst
            clear hst
            go_wp2_with fail
            refine HCN.out.mono ?_
            rintro e w5 ⟨rfl, b5⟩
            have HO5 := Lib.hid (HO4.out.below b5)
            go_wp2_with fail
            go_roundw
            case rel => exact ⟨k + 1, T, by go_num, hkn, HST.out, HO5.out, hB4.trans (b5.mono hs4)⟩
            case measure => simp [intOf]; omega
          | false =>
            rw [if_pos ⟨hc1, rfl⟩] at hst
            have HST := Lib.hid hst
            clear hst
            go_wp2_with fail
            refine HCN.out.mono ?_
            rintro e w5 ⟨rfl, b5⟩
            have HO5 : Hid (OwnI w5 w2.heap.size (.slice A8 zl c8) T) := Lib.hid (by
              exact HO4.out.below b5)
            have hB5 := hB4.trans (b5.mono hs4)
            have HGN := Lib.hid (fun (w' : World) (G : w5.grownBy w' (Value.slice A8 zl c8).ownBlock) => Below.grown hB5 G hB5.size (fun q hq => (HO5.out.lt q hq).1))
            have hTl2 : T.length ≤ 1000000000 := by have := HZL.out; omega
            go_wp2_with (at_builtin; go_must (refine append_int w5 (t2 : Int) _ rfl _ _ rfl w2.heap.size _ T rfl HO5.out rfl hTl2 hB5.size ?_); intro v7 w7 O7 G7 _; have HO7 := Lib.hid O7; have HB7 := Lib.hid (HGN.out w7 G7))
            go_roundw
            case rel => exact ⟨k + 1, T ++ [(t2 : Int)], by go_num, hkn, HST.out, HO7.out, HB7.out⟩
            case measure => simp [intOf]; omega
        · rw [if_neg (fun h => hc1 h.1)] at hst
          have HST := Lib.hid hst
          have HO5 : Hid (OwnI w4 w2.heap.size (.slice A8 zl c8) T) := Lib.hid (by
            exact HO4.out)
          clear hst
          go_wp2_with fail
          go_roundw
          case rel => exact ⟨k + 1, T, by go_num, hkn, HST.out, HO5.out, hB4⟩
          case measure => simp [intOf]; omega
      · have hkn' : k = np := by omega
        subst hkn'
        have HO2 : Hid (OwnI wr w2.heap.size u8 R) := Lib.hid (by rw [← HRR.out, HT.out]; exact HO.out)
        go_wp2_with fail
        go_ret
        exact ⟨_, rfl, own_base HO2.out hB2.size, hB2.trans (hB.mono hB2.size)⟩
  · have hrep : repls S P copies i = [] := by
      unfold repls
      rw [if_pos (by omega)]
    rw [hrep]
    clear hrep
    have F : Hid (OwnI w w.heap.size (.slice none 0 0) []) := Lib.hid (OwnI.nil_ _ _)
    by_cases hi0 : i < 0
    · clear hi
      go_enter Tryd.func9, Tryd.ntmps9
      go_wp2_with fail
      go_ret
      exact ⟨_, rfl, F.out, Below.refl _ _⟩
    · have hi3 : i ≥ ns := by omega
      clear hi
      go_enter Tryd.func9, Tryd.ntmps9
      go_wp2_with fail
      go_ret
      exact ⟨_, rfl, F.out, Below.refl _ _⟩

set_option maxRecDepth 100000 in
set_option maxHeartbeats 1000000 in
theorem ring_Has (g : Nat) (S : List ByteArray) (nodes copies : Int) (P : List Pl) (node i : Int) (w : World) (hr : RingAt w g S nodes copies P) (hP : UpU P) (hS : S.length ≤ 100) (hPl : P.length ≤ 100) (hi1 : -9223372036854775808 ≤ i) (hi2 : i ≤ 9223372036854775807) :
    Calls Tryd.prog 14 #[.pointer (some ⟨g, 0, none⟩), .int .i64 node, .int .i64 i] w fun e w' => e = .returned (.bool ((repls S P copies i).any fun y => node == y)) ∧ Below w.heap.size w w' := by
  have HC := Lib.hid (ring_Replicas g S nodes copies P i w hr hP hS hPl hi1 hi2)
  have hl : (repls S P copies i).length ≤ 100 := by
    unfold repls
    split
    · simp
    · exact Nat.le_trans (replR_len _ _ _ _) hPl
  obtain ⟨R, hR⟩ : ∃ R, repls S P copies i = R := ⟨_, rfl⟩
  rw [hR] at HC hl ⊢
  clear hr hP hR
  go_enter Tryd.func14, Tryd.ntmps14
  go_wp2_with fail
  refine HC.out.mono ?_
  rintro e w1 ⟨v, rfl, o1, b1⟩
  obtain ⟨z, hz⟩ : ∃ z, R.length = z := ⟨_, rfl⟩
  obtain ⟨A, c, hv, -, -, hr⟩ := o1.reads
  rw [hz] at hv hr
  subst hv
  have HR := Lib.hid hr
  clear hr o1
  go_wp2_with fail
  refine (ints_Contains A z c R w1 node HR.out (by omega)).mono ?_
  rintro e w2 ⟨rfl, b2⟩
  go_wp2_with fail
  go_ret
  exact ⟨rfl, b1.trans (b2.mono b1.size)⟩

set_option maxRecDepth 100000 in
theorem ring_Nodes (g : Nat) (S : List ByteArray) (nodes copies : Int) (P : List Pl) (w : World) (hr : RingAt w g S nodes copies P) : Calls Tryd.prog 16 #[.pointer (some ⟨g, 0, none⟩)] w fun e w' => e = .returned (.int .i64 nodes) ∧ w = w' := by
  obtain ⟨A, B, c, d, hb, _, _⟩ := hr.ring
  have q0 := hb.cell 1
  clear hr hb
  go_enter Tryd.func16, Tryd.ntmps16
  go_wp2_with fail
  go_ret
  exact ⟨rfl, rfl⟩
set_option maxRecDepth 100000 in
theorem ring_Copies (g : Nat) (S : List ByteArray) (nodes copies : Int) (P : List Pl) (w : World) (hr : RingAt w g S nodes copies P) : Calls Tryd.prog 17 #[.pointer (some ⟨g, 0, none⟩)] w fun e w' => e = .returned (.int .i64 copies) ∧ w = w' := by
  obtain ⟨A, B, c, d, hb, _, _⟩ := hr.ring
  have q0 := hb.cell 2
  clear hr hb
  go_enter Tryd.func17, Tryd.ntmps17
  go_wp2_with fail
  go_ret
  exact ⟨rfl, rfl⟩
set_option maxRecDepth 100000 in
theorem ring_Ranges (g : Nat) (S : List ByteArray) (nodes copies : Int) (P : List Pl) (w : World) (hr : RingAt w g S nodes copies P) : Calls Tryd.prog 18 #[.pointer (some ⟨g, 0, none⟩)] w fun e w' => e = .returned (.int .i64 (S.length : Nat)) ∧ w = w' := by
  obtain ⟨A, B, c, d, hb, _, _⟩ := hr.ring
  have q0 := hb.cell 0
  obtain ⟨n, hn⟩ : ∃ n, S.length = n := ⟨_, rfl⟩
  rw [hn] at q0 ⊢
  clear hr hb hn
  go_enter Tryd.func18, Tryd.ntmps18
  go_wp2_with fail
  go_ret
  exact ⟨rfl, rfl⟩
end Go.Proofs.YtncdchhpdbmfcaaDoor
