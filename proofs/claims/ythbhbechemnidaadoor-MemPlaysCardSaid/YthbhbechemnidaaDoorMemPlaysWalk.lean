/- The walk of the law MemPlays: it returns true, and nothing that was there ahead of the call has turned. -/
import Derived.Test.YthbhbechemnidaaDoorMemQ
import Derived.Test.YthbhbechemnidaaDoorMemK
import Derived.Test.YthbhbechemnidaaDoorMutK
namespace Go.Proofs.YthbhbechemnidaaDoor
open Go.RowKit Go.Sort

set_option maxRecDepth 100000 in
set_option maxHeartbeats 8000000 in
theorem mem_plays_walk (w : World) (hT : Tabs w) (A0 : Option Addr) (n0 c0 : Nat) (L0 : List MutS) (_hnc : n0 ≤ c0) (_hc0 : c0 ≤ maxLen) (_hA0 : A0 = none → c0 = 0) (hl0 : L0.length = n0) (hq0 : ∀ e ∈ L0, MutQ w e) (hr0 : Reads w w.heap.size 10 A0 n0 (L0.flatMap mutL)) (key : ByteArray) (_hk0 : key.size ≤ maxLen) :
    Calls Tryd.prog 3 #[.slice A0 n0 c0, .string key] w fun e w' => e = .returned (.bool true) ∧ Below w.heap.size w w' := by
  by_cases hn : 60 < n0
  · have CG := Lib.hid (law08_GreatBig A0 n0 c0 60 w (by omega))
    clear hq0 hr0 _hnc _hc0 _hA0 hl0 hT hn _hk0
    go_enter Tryd.func3, Tryd.ntmps3
    go_wp2_with fail
    refine CG.out.mono ?_
    rintro x w1 ⟨rfl, rfl⟩
    go_wp2_with fail
    go_ret
    exact ⟨rfl, Below.refl _ _⟩
  have hn60 : n0 ≤ 60 := by omega
  obtain ⟨g, hg⟩ : ∃ g, (decide ((60 : Int) < (n0 : Int)) || L0.any great1) = g := ⟨_, rfl⟩
  have CG := Lib.hid (law08_Great A0 n0 c0 L0 60 w hr0 (by omega))
  rw [hg] at CG
  have HG := Lib.hid hg
  have HR0 := Lib.hid hr0
  have HQ0 := Lib.hid hq0
  have HL0 := Lib.hid hl0
  have HT := Lib.hid hT
  clear hq0 hr0 _hnc _hc0 _hA0 hl0 hT hn hg
  go_enter Tryd.func3, Tryd.ntmps3
  go_wp2_with fail
  refine CG.out.mono ?_
  rintro x w1 ⟨rfl, rfl⟩
  clear CG
  cases g with
  | true =>
    go_wp2_with fail
    go_ret
    exact ⟨rfl, Below.refl _ _⟩
  | false =>
  have HG1 : Hid (∀ e ∈ L0, great1 e = false) := Lib.hid (fun e he => by
    have h := HG.out
    rw [Bool.or_eq_false_iff, List.any_eq_false] at h
    simpa using h.2 e he)
  have HRL := Lib.hid (rdL_of HR0.out HQ0.out HG1.out)
  have HMI : Hid (∀ e ∈ L0, MutI e.m) := Lib.hid (fun e he => mutI_of1 (HQ0.out e he) (HG1.out e he))
  clear HR0 HQ0
  have BT := Blk.new w 27 #[.pointer none, .int .i64 0]
  have hB : Below w.heap.size w (w.alloc (.cells #[.pointer none, .int .i64 0] 27)) := (Below.refl _ _).alloc (Nat.le_refl _) _
  go_wp2_with fail
  generalize w.alloc (.cells #[.pointer none, .int .i64 0] 27) = W at *
  have T0 : TreeOk W w.heap.size w.heap.size .nil 0 := ⟨BT, trivial, List.nodup_nil, by omega⟩
  have O0 := OwnL.nil_ W w.heap.size w.heap.size
  go_loopw [6, 7, 8, 9] (fun v6 v7 _ _ wr => ∃ (k : Nat) (M : List Mut) (t : TT), v7 = .int .i64 k ∧ k ≤ n0 ∧ M.length ≤ k ∧ OwnL wr w.heap.size w.heap.size v6 M ∧ TreeOk wr w.heap.size w.heap.size t M.length ∧ t.list = M ∧ SortM M ∧ Below w.heap.size w wr) (fun _ v7 _ _ _ => n0 - (RowKit.intOf v7).toNat)
  case atStart => exact ⟨0, [], .nil, rfl, Nat.zero_le _, Nat.le_refl _, O0, T0, rfl, List.Pairwise.nil, hB⟩
  case round =>
    clear T0 O0 hB BT
    obtain ⟨k, M, t, rfl, hk, hMk, hO, hTr, hTl, hS, hB⟩ := hrel
    have HO := Lib.hid hO
    have HTr := Lib.hid hTr
    have HTl := Lib.hid hTl
    have HS := Lib.hid hS
    clear hO hTr hTl hS
    obtain ⟨AM, cM, LM, rfl, -, -, hLM, hrM⟩ := HO.out.rd
    have HLM := Lib.hid hLM
    have HRM := Lib.hid hrM
    clear hLM hrM
    by_cases hkn : k < n0
    · have hkT : k < L0.length := by have := HL0.out; omega
      obtain ⟨x, b, off, hx, hA, hb, hc0, hrx0, hz, hz2⟩ := RdL.at_ HRL.out hkT
      subst hA
      have hc : ∀ i u, i < 10 → (mutL x)[i]? = some u → wr.cell? ⟨b, off + k * 10 + i, none⟩ = some u := fun i u hi h => (hB.cell (p := ⟨b, off + k * 10 + i, none⟩) hb).trans (hc0 i u hi h)
      have hxm : x ∈ L0 := by rw [← hx]; exact List.getElem_mem _
      have hgx := great1_no (HG1.out x hxm)
      have HMX := Lib.hid (HMI.out x hxm)
      have HRX := Lib.hid hrx0
      have HZ2 : Hid (x.n ≤ 1000000000 ∧ (x.A = none → x.c = 0)) := Lib.hid ⟨hz, hz2⟩
      have s0 : wr.cell? ⟨b, off + k * 10, none⟩ = some (.int .i64 x.m.tab) := hc 0 _ (by decide) rfl
      have s1 : wr.cell? ⟨b, off + k * 10 + 1, none⟩ = some (.int .i64 x.m.kind) := hc 1 _ (by decide) rfl
      have s2 : wr.cell? ⟨b, off + k * 10 + 2, none⟩ = some (.string x.m.key) := hc 2 _ (by decide) rfl
      have s3 : wr.cell? ⟨b, off + k * 10 + 3, none⟩ = some (.string x.m.en) := hc 3 _ (by decide) rfl
      have s4 : wr.cell? ⟨b, off + k * 10 + 4, none⟩ = some (.string x.m.val) := hc 4 _ (by decide) rfl
      have s5 : wr.cell? ⟨b, off + k * 10 + 5, none⟩ = some (.int .i64 x.m.exp) := hc 5 _ (by decide) rfl
      have s6 : wr.cell? ⟨b, off + k * 10 + 6, none⟩ = some (.int .i64 x.m.at_.1) := hc 6 _ (by decide) rfl
      have s7 : wr.cell? ⟨b, off + k * 10 + 7, none⟩ = some (.int .i64 x.m.at_.2.1) := hc 7 _ (by decide) rfl
      have s8 : wr.cell? ⟨b, off + k * 10 + 8, none⟩ = some (.int .i64 x.m.at_.2.2) := hc 8 _ (by decide) rfl
      have s9 : wr.cell? ⟨b, off + k * 10 + 9, none⟩ = some (.slice x.A x.n x.c) := hc 9 _ (by decide) rfl
      clear hc hc0 hrx0 hz2 hx hb
      have CR := Lib.hid (ref07_Right x.m x.A x.n x.c wr (HT.out.in_ (Nat.le_refl _) hB) ((HRX.out.below hB).more hB.size) hz (by omega) (by omega) (by unfold maxLen; omega))
      clear hgx hxm hz
      obtain ⟨q, hq⟩ : ∃ q, mrtB x.m = q := ⟨_, rfl⟩
      rw [hq] at CR
      clear hq
      unfold mutC at CR
      go_wp2_with fail
      refine CR.out.mono ?_
      rintro y w1 ⟨rfl, b1⟩
      clear CR
      replace s0 : w1.cell? ⟨b, off + k * 10, none⟩ = some (.int .i64 x.m.tab) := (b1.cell (p := ⟨b, off + k * 10, none⟩) (block_lt_of_cell s0)).trans s0
      replace s1 : w1.cell? ⟨b, off + k * 10 + 1, none⟩ = some (.int .i64 x.m.kind) := (b1.cell (p := ⟨b, off + k * 10 + 1, none⟩) (block_lt_of_cell s1)).trans s1
      replace s2 : w1.cell? ⟨b, off + k * 10 + 2, none⟩ = some (.string x.m.key) := (b1.cell (p := ⟨b, off + k * 10 + 2, none⟩) (block_lt_of_cell s2)).trans s2
      replace s3 : w1.cell? ⟨b, off + k * 10 + 3, none⟩ = some (.string x.m.en) := (b1.cell (p := ⟨b, off + k * 10 + 3, none⟩) (block_lt_of_cell s3)).trans s3
      replace s4 : w1.cell? ⟨b, off + k * 10 + 4, none⟩ = some (.string x.m.val) := (b1.cell (p := ⟨b, off + k * 10 + 4, none⟩) (block_lt_of_cell s4)).trans s4
      replace s5 : w1.cell? ⟨b, off + k * 10 + 5, none⟩ = some (.int .i64 x.m.exp) := (b1.cell (p := ⟨b, off + k * 10 + 5, none⟩) (block_lt_of_cell s5)).trans s5
      replace s6 : w1.cell? ⟨b, off + k * 10 + 6, none⟩ = some (.int .i64 x.m.at_.1) := (b1.cell (p := ⟨b, off + k * 10 + 6, none⟩) (block_lt_of_cell s6)).trans s6
      replace s7 : w1.cell? ⟨b, off + k * 10 + 7, none⟩ = some (.int .i64 x.m.at_.2.1) := (b1.cell (p := ⟨b, off + k * 10 + 7, none⟩) (block_lt_of_cell s7)).trans s7
      replace s8 : w1.cell? ⟨b, off + k * 10 + 8, none⟩ = some (.int .i64 x.m.at_.2.2) := (b1.cell (p := ⟨b, off + k * 10 + 8, none⟩) (block_lt_of_cell s8)).trans s8
      replace s9 : w1.cell? ⟨b, off + k * 10 + 9, none⟩ = some (.slice x.A x.n x.c) := (b1.cell (p := ⟨b, off + k * 10 + 9, none⟩) (block_lt_of_cell s9)).trans s9
      have hB0 := hB.size
      replace hB := hB.trans (b1.mono hB.size)
      replace HO := Lib.hid (HO.out.below b1 hB0)
      replace HRM := Lib.hid (HRM.out.below b1 hB0)
      replace HTr := Lib.hid (HTr.out.below b1)
      replace hB0 := hB.size
      clear b1
      cases q with
      | false =>
        clear s0 s1 s2 s3 s4 s5 s6 s7 s8 s9
        go_wp2_with fail
        go_roundw
        case rel => exact ⟨k + 1, M, t, by go_num, hkn, Nat.le_succ_of_le hMk, HO.out, HTr.out, HTl.out, HS.out, hB⟩
        case measure => simp [RowKit.intOf]; omega
      | true =>
      have hlo := hB.size
      have CP := Lib.hid (law13_put x.m x.A x.n x.c AM M.length cM LM w.heap.size w1 HRM.out (HRX.out.below hB) HZ2.out hlo (by omega))
      rw [HLM.out, put_sorted x.m M [] HS.out, List.nil_append] at CP
      obtain ⟨M2, hM2⟩ : ∃ M2, (insM x.m M).1 = M2 := ⟨_, rfl⟩
      obtain ⟨ok, hok⟩ : ∃ ok, (insM x.m M).2 = ok := ⟨_, rfl⟩
      rw [hM2, hok] at CP
      have HIN : Hid (insM x.m M = (M2, ok)) := Lib.hid (by rw [← hM2, ← hok])
      clear hM2 hok
      unfold mutC at CP
      go_wp2_with fail
      refine CP.out.mono ?_
      rintro y w2 ⟨v2, rfl, O2, b2⟩
      clear CP
      replace s0 : w2.cell? ⟨b, off + k * 10, none⟩ = some (.int .i64 x.m.tab) := (b2.cell (p := ⟨b, off + k * 10, none⟩) (block_lt_of_cell s0)).trans s0
      replace s1 : w2.cell? ⟨b, off + k * 10 + 1, none⟩ = some (.int .i64 x.m.kind) := (b2.cell (p := ⟨b, off + k * 10 + 1, none⟩) (block_lt_of_cell s1)).trans s1
      replace s2 : w2.cell? ⟨b, off + k * 10 + 2, none⟩ = some (.string x.m.key) := (b2.cell (p := ⟨b, off + k * 10 + 2, none⟩) (block_lt_of_cell s2)).trans s2
      replace s3 : w2.cell? ⟨b, off + k * 10 + 3, none⟩ = some (.string x.m.en) := (b2.cell (p := ⟨b, off + k * 10 + 3, none⟩) (block_lt_of_cell s3)).trans s3
      replace s4 : w2.cell? ⟨b, off + k * 10 + 4, none⟩ = some (.string x.m.val) := (b2.cell (p := ⟨b, off + k * 10 + 4, none⟩) (block_lt_of_cell s4)).trans s4
      replace s5 : w2.cell? ⟨b, off + k * 10 + 5, none⟩ = some (.int .i64 x.m.exp) := (b2.cell (p := ⟨b, off + k * 10 + 5, none⟩) (block_lt_of_cell s5)).trans s5
      replace s6 : w2.cell? ⟨b, off + k * 10 + 6, none⟩ = some (.int .i64 x.m.at_.1) := (b2.cell (p := ⟨b, off + k * 10 + 6, none⟩) (block_lt_of_cell s6)).trans s6
      replace s7 : w2.cell? ⟨b, off + k * 10 + 7, none⟩ = some (.int .i64 x.m.at_.2.1) := (b2.cell (p := ⟨b, off + k * 10 + 7, none⟩) (block_lt_of_cell s7)).trans s7
      replace s8 : w2.cell? ⟨b, off + k * 10 + 8, none⟩ = some (.int .i64 x.m.at_.2.2) := (b2.cell (p := ⟨b, off + k * 10 + 8, none⟩) (block_lt_of_cell s8)).trans s8
      replace s9 : w2.cell? ⟨b, off + k * 10 + 9, none⟩ = some (.slice x.A x.n x.c) := (b2.cell (p := ⟨b, off + k * 10 + 9, none⟩) (block_lt_of_cell s9)).trans s9
      replace hB := hB.trans (b2.mono hB.size)
      replace HTr := Lib.hid (HTr.out.below b2)
      have HO2 := Lib.hid (O2.base_le (base' := w.heap.size) hB0)
      clear hB0 b2 O2 HO HRM
      have hs2 := hB.size
      have CT := Lib.hid (tree_Put x.m x.A x.n x.c w.heap.size w.heap.size M.length t w2 HTr.out ((HRX.out.below hB).more hB.size) HZ2.out.2 HMX.out (way_sorted x.m t (by rw [HTl.out]; exact HS.out)) hs2 (by omega))
      unfold TPut at CT
      rw [HTl.out, HIN.out] at CT
      unfold mutC at CT
      obtain ⟨A2, c2, L2, rfl, -, -, -, -⟩ := HO2.out.rd
      go_wp2_with fail
      refine CT.out.mono ?_
      rintro y w3 ⟨t3, rfl, T3, l3, u3⟩
      clear CT
      have hne3 : ∀ q ∈ (w.heap.size :: t.gs), w.heap.size ≤ q := fun q hq => by
        rcases List.mem_cons.1 hq with rfl | hq
        · exact Nat.le_refl _
        · exact (HTr.out.lies.mem q hq).1
      have HO3 := Lib.hid (HO2.out.turned u3 hne3 hs2 (fun q hq => by
        rcases List.mem_cons.1 hq with rfl | hq
        · exact HO2.out.ne HTr.out.blk (by decide)
        · obtain ⟨_, cs, hb⟩ := HTr.out.lies.mem q hq
          exact HO2.out.ne hb (by decide)))
      replace hB := hB.trans (u3.under hne3 hs2)
      have hM2 : M2.length = if ok = true then M.length + 1 else M.length := by
        have := ins_len x.m M
        rw [HIN.out] at this
        exact this
      have T3' : TreeOk w3 w.heap.size w.heap.size t3 M2.length := by rw [hM2]; exact T3
      have hl3 : t3.list = M2 := l3
      have hk2 : M2.length ≤ k + 1 := by rw [hM2]; split <;> omega
      have hS2 : SortM M2 := by
        have := ins_sorted x.m M HS.out
        rw [HIN.out] at this
        exact this
      have HL3 := Lib.hid hl3
      have HS2 := Lib.hid hS2
      have HT3 := Lib.hid T3'
      clear hM2 hl3 hS2 T3 l3 u3 hne3 HO2 HTr HTl HS T3' hs2 s0 s1 s2 s3 s4 s5 s6 s7 s8 s9
      have CL := Lib.hid (tree_Len w.heap.size w.heap.size M2.length t3 w3 HT3.out)
      cases ok
      all_goals
        go_wp2_with fail
        refine CL.out.mono ?_
        rintro y w4 ⟨rfl, rfl⟩
        go_wp2_with fail
        go_roundw
        case rel => exact ⟨k + 1, M2, t3, by go_num, hkn, hk2, HO3.out, HT3.out, HL3.out, HS2.out, hB⟩
        case measure => simp [RowKit.intOf]; omega
    · clear HG1 HMI HL0 HRL
      have hM60 : M.length ≤ 60 := by omega
      have HLN : Hid (LM.length = M.length) := Lib.hid (by rw [← HLM.out, List.length_map])
      obtain ⟨W0, hW0⟩ : ∃ W0, W0 = wr := ⟨_, rfl⟩
      subst hW0
      have N0 := OwnL.nil_ W0 w.heap.size W0.heap.size
      have hhw := hB.size
      go_upto_region 15 with fail
      go_loopw [10, 11, 12] (fun v10 v11 v12 wr => ∃ k : Nat, v12 = .int .i64 k ∧ k ≤ M.length ∧ OwnL wr w.heap.size W0.heap.size v10 ((M.take k).filter (geK key)) ∧ OwnL wr w.heap.size W0.heap.size v11 ((M.take k).filter (eqK key)) ∧ Apt v10 v11 ∧ Below W0.heap.size W0 wr) (fun _ _ v12 _ => M.length - (RowKit.intOf v12).toNat)
      case atStart => exact ⟨0, rfl, Nat.zero_le _, N0, N0, (fun q hq => by cases hq), Below.refl _ _⟩
      case round =>
        clear N0 hkn hk hMk
        obtain ⟨k, rfl, hk, O1, O2, hap, b2⟩ := hrel
        obtain ⟨F, hF⟩ : ∃ F, (M.take k).filter (geK key) = F := ⟨_, rfl⟩
        obtain ⟨E, hE⟩ : ∃ E, (M.take k).filter (eqK key) = E := ⟨_, rfl⟩
        rw [hF] at O1
        rw [hE] at O2
        have HO1 := Lib.hid O1
        have HO2 := Lib.hid O2
        have HAP := Lib.hid hap
        have hsz2 := b2.size
        obtain ⟨A10, c10, L10, rfl, -, -, -, -⟩ := O1.rd
        obtain ⟨A11, c11, L11, rfl, -, -, -, -⟩ := O2.rd
        clear O1 O2 hap
        by_cases hkn : k < M.length
        · have hkT : k < LM.length := by have := HLN.out; omega
          obtain ⟨x, b, off, hx, hA, hb, hc0, hrx0, hz, hz2⟩ := RdL.at_ HRM.out hkT
          subst hA
          have hc : ∀ i u, i < 10 → (mutL x)[i]? = some u → wr.cell? ⟨b, off + k * 10 + i, none⟩ = some u := fun i u hi h => (b2.cell (p := ⟨b, off + k * 10 + i, none⟩) hb).trans (hc0 i u hi h)
          have HXM : Hid (M[k] = x.m) := Lib.hid (by
            have := HLM.out
            subst this
            rw [List.getElem_map, hx])
          have HRX : Hid (Reads wr w.heap.size 3 x.A x.n (x.m.ov.flatMap sc)) := Lib.hid (hrx0.below (b2.mono hhw))
          have HZ2 : Hid (x.n ≤ 1000000000 ∧ (x.A = none → x.c = 0)) := Lib.hid ⟨hz, hz2⟩
          have HBB := Lib.hid hb
          have s0 : wr.cell? ⟨b, off + k * 10, none⟩ = some (.int .i64 x.m.tab) := hc 0 _ (by decide) rfl
          have s1 : wr.cell? ⟨b, off + k * 10 + 1, none⟩ = some (.int .i64 x.m.kind) := hc 1 _ (by decide) rfl
          have s2 : wr.cell? ⟨b, off + k * 10 + 2, none⟩ = some (.string x.m.key) := hc 2 _ (by decide) rfl
          have s3 : wr.cell? ⟨b, off + k * 10 + 3, none⟩ = some (.string x.m.en) := hc 3 _ (by decide) rfl
          have s4 : wr.cell? ⟨b, off + k * 10 + 4, none⟩ = some (.string x.m.val) := hc 4 _ (by decide) rfl
          have s5 : wr.cell? ⟨b, off + k * 10 + 5, none⟩ = some (.int .i64 x.m.exp) := hc 5 _ (by decide) rfl
          have s6 : wr.cell? ⟨b, off + k * 10 + 6, none⟩ = some (.int .i64 x.m.at_.1) := hc 6 _ (by decide) rfl
          have s7 : wr.cell? ⟨b, off + k * 10 + 7, none⟩ = some (.int .i64 x.m.at_.2.1) := hc 7 _ (by decide) rfl
          have s8 : wr.cell? ⟨b, off + k * 10 + 8, none⟩ = some (.int .i64 x.m.at_.2.2) := hc 8 _ (by decide) rfl
          have s9 : wr.cell? ⟨b, off + k * 10 + 9, none⟩ = some (.slice x.A x.n x.c) := hc 9 _ (by decide) rfl
          clear hc hc0 hrx0 hz hz2 hx hb
          have hlF : F.length ≤ 1000000000 := by
            have := List.length_filter_le (geK key) (M.take k)
            rw [hF, List.length_take] at this
            omega
          have hlE : E.length ≤ 1000000000 := by
            have := List.length_filter_le (eqK key) (M.take k)
            rw [hE, List.length_take] at this
            omega
          have HF1 : Hid ((M.take (k + 1)).filter (geK key) = if geK key x.m = true then F ++ [x.m] else F) := Lib.hid (by
            rw [List.take_succ_eq_append_getElem hkn, List.filter_append, hF, HXM.out, List.filter_cons]
            split <;> simp)
          have HE1 : Hid ((M.take (k + 1)).filter (eqK key) = if eqK key x.m = true then E ++ [x.m] else E) := Lib.hid (by
            rw [List.take_succ_eq_append_getElem hkn, List.filter_append, hE, HXM.out, List.filter_cons]
            split <;> simp)
          clear hF hE
          obtain ⟨q1, hq1⟩ : ∃ q, geK key x.m = q := ⟨_, rfl⟩
          obtain ⟨q2, hq2⟩ : ∃ q, eqK key x.m = q := ⟨_, rfl⟩
          have HQ1 := Lib.hid hq1
          have HQ2 := Lib.hid hq2
          clear hq1 hq2
          go_upto_region 17 with fail
          go_cut [66] from 54 to 87 (fun s wx => s = .bool q1 ∧ wx = wr)
          case first =>
            have h1 : (!(Op.bytesLess x.m.key.toList key.toList)) = q1 := HQ1.out
            cases q1
            · have h2 : Op.bytesLess x.m.key.toList key.toList = true := by simpa using h1
              go_wp2_with fail
              go_meet
              case rel => exact ⟨rfl, rfl⟩
            · have h2 : Op.bytesLess x.m.key.toList key.toList = false := by simpa using h1
              go_wp2_with fail
              go_meet
              case rel => exact ⟨rfl, rfl⟩
          case rest =>
          obtain ⟨rfl, hwc⟩ := hcut
          subst hwc
          obtain ⟨W3, hW3⟩ : ∃ W3, W3 = wc := ⟨_, rfl⟩
          subst hW3
          go_upto_if 66 with fail
          go_cut [10] from 54 to 87 (fun s10 wx => OwnL wx w.heap.size W0.heap.size s10 (if q1 = true then F ++ [x.m] else F) ∧ OwnL wx w.heap.size W0.heap.size (.slice A11 E.length c11) E ∧ Apt s10 (.slice A11 E.length c11) ∧ Below W0.heap.size W3 wx)
          case first =>
            cases q1
            · go_wp2_with fail
              go_meet
              case rel => exact ⟨HO1.out, HO2.out, HAP.out, Below.refl _ _⟩
            · go_wp2_with (at_builtin; go_must (refine append_mut_l2 W3 x.m x.A x.n x.c _ (by unfold mutC; simp) rfl _ _ rfl w.heap.size W0.heap.size _ F rfl HO1.out HRX.out HZ2.out hhw rfl hlF hsz2 ?_); intro v7 w7 O7 b7 G7 L7)
              go_meet
              case rel =>
                have ba : Below W3.heap.size W3 (W3.alloc (.cells (mutC x.m (.slice x.A x.n x.c)) 35)) := (Below.refl _ _).alloc (Nat.le_refl _) _
                refine ⟨O7, (HO2.out.below ba (Nat.le_trans hhw hsz2)).grown G7 HAP.out.symm (Nat.le_trans (Nat.le_trans hhw hsz2) ba.size) (fun q hq => Nat.le_trans hhw (HO1.out.lt q hq).1), HAP.out.lies L7 (fun q hq => Nat.lt_of_lt_of_le (HO2.out.lt q hq).2 ba.size), b7⟩
          case rest =>
          obtain ⟨O10, O11, ap, b3⟩ := hcut
          have e1 := HF1.out
          rw [HQ1.out] at e1
          rw [← e1] at O10
          obtain ⟨AX, cX, LX, rfl, -, -, -, -⟩ := O10.rd
          have hsz3 : W0.heap.size ≤ wc.heap.size := Nat.le_trans hsz2 b3.size
          have hbb := HBB.out
          replace s0 : wc.cell? ⟨b, off + k * 10, none⟩ = some (.int .i64 x.m.tab) := (b3.cell (p := ⟨b, off + k * 10, none⟩) hbb).trans s0
          replace s1 : wc.cell? ⟨b, off + k * 10 + 1, none⟩ = some (.int .i64 x.m.kind) := (b3.cell (p := ⟨b, off + k * 10 + 1, none⟩) hbb).trans s1
          replace s2 : wc.cell? ⟨b, off + k * 10 + 2, none⟩ = some (.string x.m.key) := (b3.cell (p := ⟨b, off + k * 10 + 2, none⟩) hbb).trans s2
          replace s3 : wc.cell? ⟨b, off + k * 10 + 3, none⟩ = some (.string x.m.en) := (b3.cell (p := ⟨b, off + k * 10 + 3, none⟩) hbb).trans s3
          replace s4 : wc.cell? ⟨b, off + k * 10 + 4, none⟩ = some (.string x.m.val) := (b3.cell (p := ⟨b, off + k * 10 + 4, none⟩) hbb).trans s4
          replace s5 : wc.cell? ⟨b, off + k * 10 + 5, none⟩ = some (.int .i64 x.m.exp) := (b3.cell (p := ⟨b, off + k * 10 + 5, none⟩) hbb).trans s5
          replace s6 : wc.cell? ⟨b, off + k * 10 + 6, none⟩ = some (.int .i64 x.m.at_.1) := (b3.cell (p := ⟨b, off + k * 10 + 6, none⟩) hbb).trans s6
          replace s7 : wc.cell? ⟨b, off + k * 10 + 7, none⟩ = some (.int .i64 x.m.at_.2.1) := (b3.cell (p := ⟨b, off + k * 10 + 7, none⟩) hbb).trans s7
          replace s8 : wc.cell? ⟨b, off + k * 10 + 8, none⟩ = some (.int .i64 x.m.at_.2.2) := (b3.cell (p := ⟨b, off + k * 10 + 8, none⟩) hbb).trans s8
          replace s9 : wc.cell? ⟨b, off + k * 10 + 9, none⟩ = some (.slice x.A x.n x.c) := (b3.cell (p := ⟨b, off + k * 10 + 9, none⟩) hbb).trans s9
          have HRX3 := Lib.hid (HRX.out.below (b3.mono hhw))
          have B9 := b2.trans b3
          have HOX := Lib.hid O10
          have HOY := Lib.hid O11
          have HAP3 := Lib.hid ap
          clear e1 O10 O11 ap b3 b2 HO1 HO2 HAP HRX HQ1 HF1 hsz2
          obtain ⟨W4, hW4⟩ : ∃ W4, W4 = wc := ⟨_, rfl⟩
          subst hW4
          go_upto_region 19 with fail
          go_cut [80] from 54 to 87 (fun s wx => s = .bool q2 ∧ wx = W4)
          case first =>
            have h1 : (x.m.key.toList == key.toList) = q2 := HQ2.out
            cases q2
            · go_wp2_with fail
              go_meet
              case rel => exact ⟨rfl, rfl⟩
            · go_wp2_with fail
              go_meet
              case rel => exact ⟨rfl, rfl⟩
          case rest =>
          obtain ⟨rfl, hwc⟩ := hcut
          subst hwc
          obtain ⟨W4, hW4⟩ : ∃ W4, W4 = wc := ⟨_, rfl⟩
          subst hW4
          go_upto_if 80 with fail
          have e2 := HE1.out
          rw [HQ2.out] at e2
          have HE2 := Lib.hid e2
          clear e2 HE1 HQ2
          obtain ⟨F1, hF1⟩ : ∃ F1, (M.take (k + 1)).filter (geK key) = F1 := ⟨_, rfl⟩
          rw [hF1] at HOX HAP3 ⊢
          have HF2 := Lib.hid hF1
          clear hF1
          cases q2
          · go_wp2_with fail
            go_roundw
            case rel =>
              have h9 := HE2.out
              rw [if_neg (by simp)] at h9
              exact ⟨k + 1, by go_num, hkn, by rw [HF2.out]; exact HOX.out, by rw [h9]; exact HOY.out, HAP3.out, B9⟩
            case measure => simp [RowKit.intOf]; omega
          · go_wp2_with (at_builtin; go_must (refine append_mut_l2 W4 x.m x.A x.n x.c _ (by unfold mutC; simp) rfl _ _ rfl w.heap.size W0.heap.size _ E rfl HOY.out HRX3.out HZ2.out hhw rfl hlE hsz3 ?_); intro v7 w7 O7 b7 G7 L7)
            go_roundw
            case rel =>
              have h9 := HE2.out
              rw [if_pos rfl] at h9
              have ba : Below W4.heap.size W4 (W4.alloc (.cells (mutC x.m (.slice x.A x.n x.c)) 35)) := (Below.refl _ _).alloc (Nat.le_refl _) _
              refine ⟨k + 1, by go_num, hkn, ?_, by rw [h9]; exact O7, ?_, B9.trans b7⟩
              · rw [HF2.out]
                exact (HOX.out.below ba (Nat.le_trans hhw hsz3)).grown G7 HAP3.out (Nat.le_trans (Nat.le_trans hhw hsz3) ba.size) (fun q hq => Nat.le_trans hhw (HOY.out.lt q hq).1)
              · exact (HAP3.out.symm.lies L7 (fun q hq => Nat.lt_of_lt_of_le (HOX.out.lt q hq).2 ba.size)).symm
            case measure => simp [RowKit.intOf]; omega
        · have hk' : k = M.length := by omega
          subst hk'
          rw [List.take_length] at hF hE
          have hlF : F.length ≤ 1000000 := by
            have := List.length_filter_le (geK key) M
            rw [hF] at this
            omega
          have hlE : E.length ≤ 1000000 := by
            have := List.length_filter_le (eqK key) M
            rw [hE] at this
            omega
          have hst : SortM t.list := by rw [HTl.out]; exact HS.out
          have hF1 : t.from_ key = F := by rw [from_sorted key t hst, HTl.out, hF]
          have hE1 : F.takeWhile (eqK key) = E := by rw [← hF, key_sorted key M HS.out, hE]
          have hA1 : t.from_ ⟨#[]⟩ = M := by rw [from_empty, HTl.out]
          have hd1 := deep_le t
          have hd2 : blen M.length ≤ t.deep := blen_le _ _ (by rw [← HTl.out]; exact len_deep t)
          rw [HTl.out] at hd1
          have HF := Lib.hid hF1
          have HE := Lib.hid hE1
          have HA := Lib.hid hA1
          have HD1 := Lib.hid hd1
          have HD2 := Lib.hid hd2
          have hdm : t.deep ≤ 1000000 := by omega
          clear hF hE hst hF1 hE1 hA1 hd1 hd2 HAP HS HTl HLN HO
          have hBr := hB.trans (b2.mono hhw)
          replace HTr := Lib.hid (HTr.out.below b2)
          replace HRM := Lib.hid (HRM.out.below b2 hhw)
          clear b2 hB
          have hsr := hBr.size
          have CA := Lib.hid (law13_all w.heap.size M.length t wr HTr.out.blk (TT.In.of_lies HTr.out.lies) (by rw [HA.out]; omega))
          rw [HA.out] at CA
          go_wp2_with fail
          refine CA.out.mono ?_
          rintro y w1 ⟨v1, rfl, O1, b1⟩
          clear CA
          obtain ⟨A1, c1, rfl, -, -, R1⟩ := O1.rd
          have hB1 := hBr.trans (b1.mono hsr)
          have HT1 := Lib.hid (HTr.out.below b1)
          have HR1 := Lib.hid (HRM.out.below b1 hsr)
          have HB2 := Lib.hid (HO2.out.below b1 hsr)
          have HB1 := Lib.hid (HO1.out.below b1 hsr)
          clear O1 b1 hBr HTr HRM HO1 HO2 hsr hsz2
          have hs1 := hB1.size
          have CS := Lib.hid (ref07_Same A1 AM M.length c1 M.length cM M M w1 R1 (by have := HR1.out.rdm hs1; rw [HLM.out] at this; exact this) (by omega))
          rw [sameM_selfQ] at CS
          clear R1
          go_wp2_with fail
          refine CS.out.mono ?_
          rintro y w2 ⟨rfl, b2⟩
          clear CS
          have hB2 := hB1.trans (b2.mono hs1)
          have HT2 := Lib.hid (HT1.out.below b2)
          have HB2' := Lib.hid (HB2.out.below b2 hs1)
          have HB1' := Lib.hid (HB1.out.below b2 hs1)
          clear b2 hB1 HT1 HR1 HB1 HB2 hs1
          have hs2 := hB2.size
          have CF := Lib.hid (law13_from w.heap.size M.length key t w2 HT2.out.blk (TT.In.of_lies HT2.out.lies) (by rw [HF.out]; omega))
          rw [HF.out] at CF
          go_wp2_with fail
          refine CF.out.mono ?_
          rintro y w3 ⟨v3, rfl, O3, b3⟩
          clear CF
          obtain ⟨A3, c3, rfl, -, -, R3⟩ := O3.rd
          have hB3 := hB2.trans (b3.mono hs2)
          have HT3 := Lib.hid (HT2.out.below b3)
          have HB23 := Lib.hid (HB2'.out.below b3 hs2)
          have HB13 := Lib.hid (HB1'.out.below b3 hs2)
          clear O3 b3 hB2 HT2 HB2' HB1' hs2
          have hs3 := hB3.size
          obtain ⟨AF, cF, LF, hvF, -, -, hLF, RF⟩ := HB13.out.rd
          injection hvF with hvF1 _ hvF2
          subst hvF1
          subst hvF2
          have CS := Lib.hid (ref07_Same A3 A10 F.length c3 F.length c10 F F w3 R3 (by have := RF.rdm hs3; rw [hLF] at this; exact this) (by omega))
          rw [sameM_selfQ] at CS
          clear R3 RF hLF HB13
          go_wp2_with fail
          refine CS.out.mono ?_
          rintro y w4 ⟨rfl, b4⟩
          clear CS
          have hB4 := hB3.trans (b4.mono hs3)
          have HT4 := Lib.hid (HT3.out.below b4)
          have HB24 := Lib.hid (HB23.out.below b4 hs3)
          clear b4 hB3 HT3 HB23 hs3
          have hs4 := hB4.size
          have CK := Lib.hid (tree_Key w.heap.size M.length key t w4 HT4.out.blk (TT.In.of_lies HT4.out.lies) (by rw [HF.out]; omega))
          rw [HF.out, HE.out] at CK
          go_wp2_with fail
          refine CK.out.mono ?_
          rintro y w5 ⟨v5, rfl, O5, b5⟩
          clear CK
          obtain ⟨A5, c5, rfl, -, -, R5⟩ := O5.rd
          have hB5 := hB4.trans (b5.mono hs4)
          have HT5 := Lib.hid (HT4.out.below b5)
          have HB25 := Lib.hid (HB24.out.below b5 hs4)
          clear O5 b5 hB4 HT4 HB24 hs4
          have hs5 := hB5.size
          obtain ⟨AE, cE, LE, hvE, -, -, hLE, RE⟩ := HB25.out.rd
          injection hvE with hvE1 _ hvE2
          subst hvE1
          subst hvE2
          have CS := Lib.hid (ref07_Same A5 A11 E.length c5 E.length c11 E E w5 R5 (by have := RE.rdm hs5; rw [hLE] at this; exact this) (by omega))
          rw [sameM_selfQ] at CS
          clear R5 RE hLE HB25
          go_wp2_with fail
          refine CS.out.mono ?_
          rintro y w6 ⟨rfl, b6⟩
          clear CS
          have hB6 := hB5.trans (b6.mono hs5)
          have HT6 := Lib.hid (HT5.out.below b6)
          clear b6 hB5 HT5 hs5
          have hs6 := hB6.size
          have CD := Lib.hid (tree_Deep w.heap.size M.length t w6 HT6.out.blk (TT.In.of_lies HT6.out.lies) hdm)
          obtain ⟨d, hd⟩ : ∃ d, t.deep = d := ⟨_, rfl⟩
          rw [hd] at CD HD1 HD2 hdm
          clear hd
          go_wp2_with fail
          refine CD.out.mono ?_
          rintro y w7 ⟨rfl, b7⟩
          clear CD
          have hB7 := hB6.trans (b7.mono hs6)
          clear b7 hB6 HT6 hs6
          have CB := Lib.hid (law13_bounds d M.length w7 (by omega))
          rw [decide_eq_true HD1.out, decide_eq_true HD2.out] at CB
          go_wp2_with fail
          refine CB.out.mono ?_
          rintro y w8 ⟨rfl, rfl⟩
          clear CB
          have CV := Lib.hid (law13_alive w7)
          go_wp2_with fail
          refine CV.out.mono ?_
          rintro y w9 ⟨rfl, b9⟩
          clear CV
          have hB9 := hB7.trans (b9.mono hB7.size)
          clear b9 hB7
          go_wp2_with fail
          go_ret
          exact ⟨rfl, hB9⟩
end Go.Proofs.YthbhbechemnidaaDoor
