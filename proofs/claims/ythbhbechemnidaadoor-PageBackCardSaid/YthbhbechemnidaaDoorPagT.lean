/- Plain: rows of mutations, one more put into them; contract of the reference's Insert and Right. Contract of the reference's Less and Sort of a page. -/
import Derived.Test.YthbhbechemnidaaDoorOwnL
import Derived.Test.YthbhbechemnidaaDoorMemA
import Derived.Deep.CutRange
import Derived.Test.YthbhbechemnidaaDoorMutK
import Derived.Test.YthbhbechemnidaaDoorPagA
namespace Go.Proofs.YthbhbechemnidaaDoor
open Go.RowKit Go.Sort

/-- A mutation more, ahead of the first one that p tells, unless it is in; and then the next one, if q tells it. -/
def insA (p : Mut → Bool) (m : Mut) (s : Bool × List Mut) (x : Mut) : Bool × List Mut := if (!s.1 && p x) = true then (true, s.2 ++ [m]) else s
def insG (p q : Mut → Bool) (m : Mut) (s : Bool × List Mut) (x : Mut) : Bool × List Mut := if q x = true then ((insA p m s x).1, (insA p m s x).2 ++ [x]) else insA p m s x
def insE (m : Mut) (s : Bool × List Mut) : List Mut := if s.1 = true then s.2 else s.2 ++ [m]
def insPQ (p q : Mut → Bool) (m : Mut) (l : List Mut) : List Mut := insE m (l.foldl (insG p q m) (false, []))
def p7 (m x : Mut) : Bool := decide (cmpM m x ≤ 0)
def q7 (m x : Mut) : Bool := !(cmpM m x == 0)
def ins7 (m : Mut) (l : List Mut) : List Mut := insPQ (p7 m) (q7 m) m l
noncomputable def right9 (l : List Mut) : List Mut := l.foldl (fun s m => if mrtB m = true then ins7 m s else s) []
theorem insG_len (p q : Mut → Bool) (m : Mut) : ∀ (l : List Mut) (s : Bool × List Mut), (l.foldl (insG p q m) s).2.length + (if (l.foldl (insG p q m) s).1 = true then 0 else 1) ≤ s.2.length + l.length + (if s.1 = true then 0 else 1)
  | [], s => Nat.le_refl _
  | x :: l, s => by
    rw [List.foldl_cons]
    refine Nat.le_trans (insG_len p q m l _) ?_
    have h : (insG p q m s x).2.length + (if (insG p q m s x).1 = true then 0 else 1) ≤ s.2.length + 1 + (if s.1 = true then 0 else 1) := by
      unfold insG insA
      obtain ⟨i, o⟩ := s
      cases i <;> cases p x <;> cases q x <;> simp
    rw [List.length_cons]
    omega
theorem insPQ_len (p q : Mut → Bool) (m : Mut) (l : List Mut) : (insPQ p q m l).length ≤ l.length + 1 := by
  have h := insG_len p q m l (false, [])
  unfold insPQ insE
  split
  · rename_i h1
    rw [if_pos h1] at h
    simp at h
    omega
  · rename_i h1
    rw [if_neg h1] at h
    rw [List.length_append]
    simp at h ⊢
    omega

set_option maxRecDepth 100000 in
set_option maxHeartbeats 8000000 in
theorem ref07_Insert (x0 : Mut) (A0 : Option Addr) (n0 cz0 : Nat) (A : Option Addr) (n c : Nat) (L : List MutS) (hi : Nat) (w : World) (hr : RdL w hi A n L) (hr0 : Reads w hi 3 A0 n0 (x0.ov.flatMap sc)) (hz0 : n0 ≤ 1000000000 ∧ (A0 = none → cz0 = 0)) (hhi : hi ≤ w.heap.size) (hn : n ≤ 1000000) :
    Calls Tryd.prog 94 #[.slice A n c, .agg (mutC x0 (.slice A0 n0 cz0))] w fun e w' => ∃ v, e = .returned v ∧ OwnL w' hi w.heap.size v (ins7 x0 (L.map (·.m))) ∧ Below w.heap.size w w' := by
  have HLL := Lib.hid (muts_n hr.1)
  obtain ⟨ST, hST⟩ : ∃ ST, (L.map (·.m)).foldl (insG (p7 x0) (q7 x0) x0) (false, []) = ST := ⟨_, rfl⟩
  unfold ins7 insPQ
  rw [hST]
  have HS0 : Hid (((L.map (·.m)).drop 0).foldl (insG (p7 x0) (q7 x0) x0) (false, []) = ST) := Lib.hid (by rw [List.drop_zero]; exact hST)
  clear hST
  have BK := Blk.new w 35 (mutC x0 (.slice A0 n0 cz0))
  have hB : Below w.heap.size w (w.alloc (.cells (mutC x0 (.slice A0 n0 cz0)) 35)) := (Below.refl _ _).alloc (Nat.le_refl _) _
  have HR := Lib.hid hr
  have HR0 := Lib.hid hr0
  have HZ0 := Lib.hid hz0
  have hz1 := hz0.1
  clear hr hr0 hz0
  go_enter Tryd.func94, Tryd.ntmps94
  go_wp2_with fail
  generalize w.alloc (.cells (mutC x0 (.slice A0 n0 cz0)) 35) = W at *
  have O0 := OwnL.nil_ W hi (w.heap.size + 1)
  go_loopw [5, 6, 7, 8] (fun v5 v6 v7 _ wr => ∃ (k : Nat) (i : Bool) (M : List Mut), v6 = .bool i ∧ v7 = .int .i64 k ∧ k ≤ n ∧ M.length ≤ 2 * k ∧ OwnL wr hi (w.heap.size + 1) v5 M ∧ ((L.map (·.m)).drop k).foldl (insG (p7 x0) (q7 x0) x0) (i, M) = ST ∧ Blk wr w.heap.size 35 (mutC x0 (.slice A0 n0 cz0)) ∧ Below w.heap.size w wr) (fun _ _ v7 _ _ => n - (RowKit.intOf v7).toNat)
  case atStart => exact ⟨0, false, [], rfl, rfl, Nat.zero_le _, Nat.le_refl _, O0, HS0.out, BK, hB⟩
  case round =>
    clear O0 HS0 BK hB
    obtain ⟨k, i, M, rfl, rfl, hk, hMl, hO, hS, BK, hB⟩ := hrel
    have HO := Lib.hid hO
    have HS := Lib.hid hS
    clear hO hS
    by_cases hkn : k < n
    · have hkT : k < L.length := by have := HLL.out; omega
      obtain ⟨x, b, off, hx, hA, hb, hc0, hrx0, hz, hz2⟩ := RdL.at_ HR.out hkT
      subst hA
      have hc : ∀ i u, i < 10 → (mutL x)[i]? = some u → wr.cell? ⟨b, off + k * 10 + i, none⟩ = some u := fun i u hi h => (hB.cell (p := ⟨b, off + k * 10 + i, none⟩) hb).trans (hc0 i u hi h)
      have hrx := hrx0.below (hB.mono hhi)
      clear hc0 hrx0
      have HBB := Lib.hid hb
      clear hb
      have HX : Hid ((L.map (·.m))[k]'(by rw [List.length_map]; exact hkT) = x.m) := Lib.hid (by rw [List.getElem_map, hx])
      have HZ2 : Hid (x.n ≤ 1000000000 ∧ (x.A = none → x.c = 0)) := Lib.hid ⟨hz, hz2⟩
      have HRX := Lib.hid hrx
      clear hrx hx hz2
      have c0 : wr.cell? ⟨b, off + k * 10, none⟩ = some (.int .i64 x.m.tab) := hc 0 _ (by decide) rfl
      have c1 : wr.cell? ⟨b, off + k * 10 + 1, none⟩ = some (.int .i64 x.m.kind) := hc 1 _ (by decide) rfl
      have c2 : wr.cell? ⟨b, off + k * 10 + 2, none⟩ = some (.string x.m.key) := hc 2 _ (by decide) rfl
      have c3 : wr.cell? ⟨b, off + k * 10 + 3, none⟩ = some (.string x.m.en) := hc 3 _ (by decide) rfl
      have c4 : wr.cell? ⟨b, off + k * 10 + 4, none⟩ = some (.string x.m.val) := hc 4 _ (by decide) rfl
      have c5 : wr.cell? ⟨b, off + k * 10 + 5, none⟩ = some (.int .i64 x.m.exp) := hc 5 _ (by decide) rfl
      have c6 : wr.cell? ⟨b, off + k * 10 + 6, none⟩ = some (.int .i64 x.m.at_.1) := hc 6 _ (by decide) rfl
      have c7 : wr.cell? ⟨b, off + k * 10 + 7, none⟩ = some (.int .i64 x.m.at_.2.1) := hc 7 _ (by decide) rfl
      have c8 : wr.cell? ⟨b, off + k * 10 + 8, none⟩ = some (.int .i64 x.m.at_.2.2) := hc 8 _ (by decide) rfl
      have c9 : wr.cell? ⟨b, off + k * 10 + 9, none⟩ = some (.slice x.A x.n x.c) := hc 9 _ (by decide) rfl
      have t0 : wr.cell? ⟨w.heap.size, 0, none⟩ = some (.int .i64 x0.tab) := BK.cell 0
      have t1 : wr.cell? ⟨w.heap.size, 1, none⟩ = some (.int .i64 x0.kind) := BK.cell 1
      have t2 : wr.cell? ⟨w.heap.size, 2, none⟩ = some (.string x0.key) := BK.cell 2
      have t3 : wr.cell? ⟨w.heap.size, 3, none⟩ = some (.string x0.en) := BK.cell 3
      have t4 : wr.cell? ⟨w.heap.size, 4, none⟩ = some (.string x0.val) := BK.cell 4
      have t5 : wr.cell? ⟨w.heap.size, 5, none⟩ = some (.int .i64 x0.exp) := BK.cell 5
      have t6 : wr.cell? ⟨w.heap.size, 6, none⟩ = some (.int .i64 x0.at_.1) := BK.cell 6
      have t7 : wr.cell? ⟨w.heap.size, 7, none⟩ = some (.int .i64 x0.at_.2.1) := BK.cell 7
      have t8 : wr.cell? ⟨w.heap.size, 8, none⟩ = some (.int .i64 x0.at_.2.2) := BK.cell 8
      have t9 : wr.cell? ⟨w.heap.size, 9, none⟩ = some (.slice A0 n0 cz0) := BK.cell 9
      obtain ⟨cz, hcz⟩ : ∃ cz, cmpM x0 x.m = cz := ⟨_, rfl⟩
      have CC := fun d os => Calls.regrown_of (d := d) (os := os) (w := wr) (ref07_Compare x0 x.m A0 x.A n0 cz0 x.n x.c (grow (redrawn wr d) os) (((HR0.out.below (hB.mono hhi)).below ((below_regrown wr d os).mono (Nat.le_trans hhi hB.size))).more (Nat.le_trans (Nat.le_trans hhi hB.size) (below_regrown wr d os).size)) ((HRX.out.below ((below_regrown wr d os).mono (Nat.le_trans hhi hB.size))).more (Nat.le_trans (Nat.le_trans hhi hB.size) (below_regrown wr d os).size)) hz1)
      rw [hcz] at CC
      unfold mutC at CC
      have HCC := Lib.hid CC
      have HCZ := Lib.hid hcz
      clear CC hcz hc
      go_upto_region 6 with fail
      have s0 := cell_regrown c0
      have s1 := cell_regrown c1
      have s2 := cell_regrown c2
      have s3 := cell_regrown c3
      have s4 := cell_regrown c4
      have s5 := cell_regrown c5
      have s6 := cell_regrown c6
      have s7 := cell_regrown c7
      have s8 := cell_regrown c8
      have s9 := cell_regrown c9
      have z0 := cell_regrown t0
      have z1 := cell_regrown t1
      have z2 := cell_regrown t2
      have z3 := cell_regrown t3
      have z4 := cell_regrown t4
      have z5 := cell_regrown t5
      have z6 := cell_regrown t6
      have z7 := cell_regrown t7
      have z8 := cell_regrown t8
      have z9 := cell_regrown t9
      clear c0 c1 c2 c3 c4 c5 c6 c7 c8 c9 t0 t1 t2 t3 t4 t5 t6 t7 t8 t9
      refine wp_region_quiet_below (by kernel_rfl) (by kernel_rfl) ?_
      repeat (go_big_quiet_step (exact HCC.out _ _))
      refine wpQuiet_nil ?_
      rintro w1 ⟨⟨dq, osq⟩, rfl⟩
      have b9 := below_regrown wr dq osq
      replace s0 := s0 dq osq
      replace s1 := s1 dq osq
      replace s2 := s2 dq osq
      replace s3 := s3 dq osq
      replace s4 := s4 dq osq
      replace s5 := s5 dq osq
      replace s6 := s6 dq osq
      replace s7 := s7 dq osq
      replace s8 := s8 dq osq
      replace s9 := s9 dq osq
      replace z0 := z0 dq osq
      replace z1 := z1 dq osq
      replace z2 := z2 dq osq
      replace z3 := z3 dq osq
      replace z4 := z4 dq osq
      replace z5 := z5 dq osq
      replace z6 := z6 dq osq
      replace z7 := z7 dq osq
      replace z8 := z8 dq osq
      replace z9 := z9 dq osq
      replace BK := BK.below b9 BK.lt
      replace HO := Lib.hid (HO.out.below b9 (Nat.le_trans hhi hB.size))
      replace HRX := Lib.hid (HRX.out.below (b9.mono (Nat.le_trans hhi hB.size)))
      replace hB := hB.trans (b9.mono hB.size)
      clear b9 HCC
      generalize grow (redrawn wr dq) osq = w1 at *
      have hsz : w.heap.size + 1 ≤ w1.heap.size := BK.lt
      go_upto_region 7 with fail
      obtain ⟨q26, hq26⟩ : ∃ q26, (!i && decide (cz ≤ 0)) = q26 := ⟨_, rfl⟩
      have HQ26 := Lib.hid hq26
      clear hq26
      go_cut [26] from 9 to 39 (fun s26 wx => s26 = .bool q26 ∧ wx = w1)
      case first =>
        have hq26 := HQ26.out
        cases i
        · by_cases hlt : cz ≤ 0
          · have hd : decide (cz ≤ 0) = true := decide_eq_true hlt
            rw [hd] at hq26
            subst hq26
            go_wp2_with fail
            go_meet
            case rel => exact ⟨by first | rfl | (simp; done), rfl⟩
          · have hd : decide (cz ≤ 0) = false := decide_eq_false hlt
            rw [hd] at hq26
            subst hq26
            go_wp2_with fail
            go_meet
            case rel => exact ⟨by first | rfl | (simp; done), rfl⟩
        · subst hq26
          go_wp2_with fail
          go_meet
          case rel => exact ⟨by first | rfl | (simp; done), rfl⟩
      case rest =>
      obtain ⟨rfl, rfl⟩ := hcut
      obtain ⟨W5, hW5⟩ : ∃ W5, W5 = wc := ⟨_, rfl⟩
      subst hW5
      go_upto_if 26 with fail
      have hMl9 : M.length ≤ 1000000000 := by omega
      obtain ⟨AM, cM, LM, rfl, -, -, -, -⟩ := HO.out.rd
      go_cut [5, 6] from 9 to 39 (fun s5 s6 wx => OwnL wx hi (w.heap.size + 1) s5 (if q26 = true then M ++ [x0] else M) ∧ s6 = .bool (if q26 = true then true else i) ∧ Below (w.heap.size + 1) W5 wx)
      case first =>
        cases q26
        · go_wp2_with fail
          go_meet
          case rel => exact ⟨HO.out, rfl, Below.refl _ _⟩
        · go_wp2_with (at_builtin; go_must (refine append_mut_l W5 x0 A0 n0 cz0 _ (by unfold mutC; simp) rfl _ _ rfl hi (w.heap.size + 1) _ M rfl HO.out (HR0.out.below (hB.mono hhi)) HZ0.out (Nat.le_succ_of_le hhi) rfl hMl9 hsz ?_); intro v7 w7 O7 b7)
          go_meet
          case rel => exact ⟨O7, rfl, b7⟩
      case rest =>
      obtain ⟨O6, rfl, b6⟩ := hcut
      obtain ⟨M6, hM6⟩ : ∃ M6, (if q26 = true then M ++ [x0] else M) = M6 := ⟨_, rfl⟩
      obtain ⟨i6, hi6⟩ : ∃ i6, (if q26 = true then true else i) = i6 := ⟨_, rfl⟩
      have hlM6 : M6.length ≤ 2 * k + 1 := by
        rw [← hM6]
        split
        · rw [List.length_append]; show M.length + 1 ≤ _; omega
        · omega
      have HST : Hid (insG (p7 x0) (q7 x0) x0 (i, M) x.m = if cz = 0 then (i6, M6) else (i6, M6 ++ [x.m])) := Lib.hid (by
        rw [← hM6, ← hi6]
        unfold insG insA p7 q7
        rw [HCZ.out]
        show (if (!(cz == 0)) = true then ((if (!i && decide (cz ≤ 0)) = true then (true, M ++ [x0]) else (i, M)).1, (if (!i && decide (cz ≤ 0)) = true then (true, M ++ [x0]) else (i, M)).2 ++ [x.m]) else if (!i && decide (cz ≤ 0)) = true then (true, M ++ [x0]) else (i, M)) = _
        rw [HQ26.out]
        by_cases h0 : cz = 0
        · subst h0
          cases q26 <;> simp
        · cases q26 <;> simp [h0])
      rw [hM6] at O6
      rw [hi6]
      obtain ⟨A6, c6, L6, rfl, -, -, -, -⟩ := O6.rd
      have hMl6 : M6.length ≤ 1000000000 := by omega
      have hsz6 : w.heap.size + 1 ≤ wc.heap.size := Nat.le_trans hsz b6.size
      have HO6 := Lib.hid O6
      have HR6 := Lib.hid (HRX.out.below (b6.mono (Nat.le_succ_of_le hhi)))
      have hBB := HBB.out
      have y0 := (b6.cell (p := ⟨b, off + k * 10, none⟩) (Nat.lt_succ_of_lt hBB)).trans s0
      have y1 := (b6.cell (p := ⟨b, off + k * 10 + 1, none⟩) (Nat.lt_succ_of_lt hBB)).trans s1
      have y2 := (b6.cell (p := ⟨b, off + k * 10 + 2, none⟩) (Nat.lt_succ_of_lt hBB)).trans s2
      have y3 := (b6.cell (p := ⟨b, off + k * 10 + 3, none⟩) (Nat.lt_succ_of_lt hBB)).trans s3
      have y4 := (b6.cell (p := ⟨b, off + k * 10 + 4, none⟩) (Nat.lt_succ_of_lt hBB)).trans s4
      have y5 := (b6.cell (p := ⟨b, off + k * 10 + 5, none⟩) (Nat.lt_succ_of_lt hBB)).trans s5
      have y6 := (b6.cell (p := ⟨b, off + k * 10 + 6, none⟩) (Nat.lt_succ_of_lt hBB)).trans s6
      have y7 := (b6.cell (p := ⟨b, off + k * 10 + 7, none⟩) (Nat.lt_succ_of_lt hBB)).trans s7
      have y8 := (b6.cell (p := ⟨b, off + k * 10 + 8, none⟩) (Nat.lt_succ_of_lt hBB)).trans s8
      have y9 := (b6.cell (p := ⟨b, off + k * 10 + 9, none⟩) (Nat.lt_succ_of_lt hBB)).trans s9
      have BK6 := BK.below b6 (Nat.lt_succ_self _)
      have hB6 := hB.trans (b6.mono (Nat.le_succ _))
      have HNX : Hid (∀ s, insG (p7 x0) (q7 x0) x0 (i, M) x.m = s → ((L.map (·.m)).drop (k + 1)).foldl (insG (p7 x0) (q7 x0) x0) s = ST) := Lib.hid (by
        rintro s hs
        have h9 := HS.out
        have hk9 : k < (L.map (·.m)).length := by rw [List.length_map]; exact hkT
        rw [List.drop_eq_getElem_cons hk9, List.foldl_cons, HX.out, hs] at h9
        exact h9)
      clear hM6 hi6 O6 s0 s1 s2 s3 s4 s5 s6 s7 s8 s9 z0 z1 z2 z3 z4 z5 z6 z7 z8 z9 BK HO HRX HQ26
      by_cases h0 : cz = 0
      · have hd : (cz != 0) = false := by simp [h0]
        have HE := HST.out
        rw [if_pos h0] at HE
        have HF := Lib.hid (HNX.out _ HE)
        clear h0 HE HNX HST
        go_wp2_with fail
        go_roundw
        case rel => exact ⟨k + 1, i6, M6, rfl, by go_num, hkn, by omega, HO6.out, HF.out, BK6, hB6⟩
        case measure => simp [RowKit.intOf]; omega
      · have hd : (cz != 0) = true := by simp [h0]
        have HE := HST.out
        rw [if_neg h0] at HE
        have HF := Lib.hid (HNX.out _ HE)
        clear h0 HE HNX HST
        go_wp2_with (at_builtin; go_must (refine append_mut_l wc x.m x.A x.n x.c _ (by unfold mutC; simp) rfl _ _ rfl hi (w.heap.size + 1) _ M6 rfl HO6.out HR6.out HZ2.out (Nat.le_succ_of_le hhi) rfl hMl6 hsz6 ?_); intro v7 w7 O7 b7)
        go_roundw
        case rel => exact ⟨k + 1, i6, M6 ++ [x.m], rfl, by go_num, hkn, by rw [List.length_append]; show M6.length + 1 ≤ _; omega, O7, HF.out, BK6.below b7 (Nat.lt_succ_self _), hB6.trans (b7.mono (Nat.le_succ _))⟩
        case measure => simp [RowKit.intOf]; omega
    · have hkn : k = n := by omega
      subst hkn
      have HS2 := HS.out
      rw [List.drop_eq_nil_of_le (by rw [List.length_map, HLL.out]; exact Nat.le_refl _)] at HS2
      rw [List.foldl_nil] at HS2
      subst HS2
      obtain ⟨AM, cM, LM, rfl, -, -, -, -⟩ := HO.out.rd
      have hMl9 : M.length ≤ 1000000000 := by omega
      have hsz : w.heap.size + 1 ≤ wr.heap.size := BK.lt
      have t0 : wr.cell? ⟨w.heap.size, 0, none⟩ = some (.int .i64 x0.tab) := BK.cell 0
      have t1 : wr.cell? ⟨w.heap.size, 1, none⟩ = some (.int .i64 x0.kind) := BK.cell 1
      have t2 : wr.cell? ⟨w.heap.size, 2, none⟩ = some (.string x0.key) := BK.cell 2
      have t3 : wr.cell? ⟨w.heap.size, 3, none⟩ = some (.string x0.en) := BK.cell 3
      have t4 : wr.cell? ⟨w.heap.size, 4, none⟩ = some (.string x0.val) := BK.cell 4
      have t5 : wr.cell? ⟨w.heap.size, 5, none⟩ = some (.int .i64 x0.exp) := BK.cell 5
      have t6 : wr.cell? ⟨w.heap.size, 6, none⟩ = some (.int .i64 x0.at_.1) := BK.cell 6
      have t7 : wr.cell? ⟨w.heap.size, 7, none⟩ = some (.int .i64 x0.at_.2.1) := BK.cell 7
      have t8 : wr.cell? ⟨w.heap.size, 8, none⟩ = some (.int .i64 x0.at_.2.2) := BK.cell 8
      have t9 : wr.cell? ⟨w.heap.size, 9, none⟩ = some (.slice A0 n0 cz0) := BK.cell 9
      cases i
      · go_wp2_with (at_builtin; go_must (refine append_mut_l wr x0 A0 n0 cz0 _ (by unfold mutC; simp) rfl _ _ rfl hi (w.heap.size + 1) _ M rfl HO.out (HR0.out.below (hB.mono hhi)) HZ0.out (Nat.le_succ_of_le hhi) rfl hMl9 hsz ?_); intro v7 w7 O7 b7)
        go_ret
        exact ⟨_, rfl, O7.base_le (Nat.le_succ _), hB.trans (b7.mono (Nat.le_succ _))⟩
      · go_wp2_with fail
        go_ret
        exact ⟨_, rfl, HO.out.base_le (Nat.le_succ _), hB⟩

/-- What is asked of the texts of a mutation that the reference's Right is asked about. -/
def TxOk (m : Mut) : Prop := m.key.size ≤ 70368744177664 ∧ m.en.size ≤ 70368744177664 ∧ m.val.size ≤ maxLen
theorem right9_step (l : List Mut) (k : Nat) (hk : k < l.length) : right9 (l.take (k + 1)) = if mrtB l[k] = true then ins7 l[k] (right9 (l.take k)) else right9 (l.take k) := by
  unfold right9
  rw [List.take_succ_eq_append_getElem hk, List.foldl_append]
  rfl
theorem right9_len : ∀ (l : List Mut) (s : List Mut), (l.foldl (fun s m => if mrtB m = true then ins7 m s else s) s).length ≤ s.length + l.length
  | [], s => Nat.le_refl _
  | m :: l, s => by
    rw [List.foldl_cons]
    refine Nat.le_trans (right9_len l _) ?_
    rw [List.length_cons]
    split
    · have := insPQ_len (p7 m) (q7 m) m s
      unfold ins7
      omega
    · omega
set_option maxRecDepth 100000 in
set_option maxHeartbeats 4000000 in
theorem ref09_Right (A : Option Addr) (n c : Nat) (L : List MutS) (hi : Nat) (w : World) (hT : Tabs w) (hr : RdL w hi A n L) (hx : ∀ e ∈ L, TxOk e.m) (hhi : hi ≤ w.heap.size) (hn : n ≤ 1000) :
    Calls Tryd.prog 52 #[.slice A n c] w fun e w' => ∃ v, e = .returned v ∧ OwnL w' hi w.heap.size v (right9 (L.map (·.m))) ∧ Below w.heap.size w w' := by
  have HLL := Lib.hid (muts_n hr.1)
  have HR := Lib.hid hr
  have HTX := Lib.hid hx
  have HT := Lib.hid hT
  clear hr hx hT
  have O0 := OwnL.nil_ w hi w.heap.size
  go_enter Tryd.func52, Tryd.ntmps52
  go_wp2_with fail
  go_loopw [3, 4] (fun v3 v4 wr => ∃ (k : Nat), v4 = .int .i64 k ∧ k ≤ n ∧ OwnL wr hi w.heap.size v3 (right9 ((L.map (·.m)).take k)) ∧ Below w.heap.size w wr) (fun _ v4 _ => n - (RowKit.intOf v4).toNat)
  case atStart => exact ⟨0, rfl, Nat.zero_le _, O0, Below.refl _ _⟩
  case round =>
    clear O0
    obtain ⟨k, rfl, hk, hO, hB⟩ := hrel
    by_cases hkn : k < n
    · have hkT : k < L.length := by have := HLL.out; omega
      obtain ⟨x, b, off, hx, hA, hb, hc0, hrx0, hz, hz2⟩ := RdL.at_ HR.out hkT
      subst hA
      have hc : ∀ i u, i < 10 → (mutL x)[i]? = some u → wr.cell? ⟨b, off + k * 10 + i, none⟩ = some u := fun i u hi h => (hB.cell (p := ⟨b, off + k * 10 + i, none⟩) hb).trans (hc0 i u hi h)
      have hrx := hrx0.below (hB.mono hhi)
      have HBB := Lib.hid hb
      have htx : TxOk x.m := by rw [← hx]; exact HTX.out _ (List.getElem_mem hkT)
      have hst := right9_step (L.map (·.m)) k (by rw [List.length_map]; exact hkT)
      rw [List.getElem_map, hx] at hst
      have HZ2 : Hid (x.n ≤ 1000000000 ∧ (x.A = none → x.c = 0)) := Lib.hid ⟨hz, hz2⟩
      have hlen : (right9 ((L.map (·.m)).take k)).length ≤ 1000 := by
        have := right9_len ((L.map (·.m)).take k) []
        rw [List.length_take] at this
        unfold right9
        simp at this ⊢
        omega
      obtain ⟨R, hR⟩ : ∃ R, right9 ((L.map (·.m)).take k) = R := ⟨_, rfl⟩
      rw [hR] at hst hO hlen
      have HST := Lib.hid hst
      have HO := Lib.hid hO
      have HRX := Lib.hid hrx
      clear hc0 hrx0 hb hx hz2 hst hR hO hrx
      have c0 : wr.cell? ⟨b, off + k * 10, none⟩ = some (.int .i64 x.m.tab) := hc 0 _ (by decide) rfl
      have c1 : wr.cell? ⟨b, off + k * 10 + 1, none⟩ = some (.int .i64 x.m.kind) := hc 1 _ (by decide) rfl
      have c2 : wr.cell? ⟨b, off + k * 10 + 2, none⟩ = some (.string x.m.key) := hc 2 _ (by decide) rfl
      have c3 : wr.cell? ⟨b, off + k * 10 + 3, none⟩ = some (.string x.m.en) := hc 3 _ (by decide) rfl
      have c4 : wr.cell? ⟨b, off + k * 10 + 4, none⟩ = some (.string x.m.val) := hc 4 _ (by decide) rfl
      have c5 : wr.cell? ⟨b, off + k * 10 + 5, none⟩ = some (.int .i64 x.m.exp) := hc 5 _ (by decide) rfl
      have c6 : wr.cell? ⟨b, off + k * 10 + 6, none⟩ = some (.int .i64 x.m.at_.1) := hc 6 _ (by decide) rfl
      have c7 : wr.cell? ⟨b, off + k * 10 + 7, none⟩ = some (.int .i64 x.m.at_.2.1) := hc 7 _ (by decide) rfl
      have c8 : wr.cell? ⟨b, off + k * 10 + 8, none⟩ = some (.int .i64 x.m.at_.2.2) := hc 8 _ (by decide) rfl
      have c9 : wr.cell? ⟨b, off + k * 10 + 9, none⟩ = some (.slice x.A x.n x.c) := hc 9 _ (by decide) rfl
      have CR := ref07_Right x.m x.A x.n x.c wr (HT.out.in_ (Nat.le_refl _) hB) (HRX.out.more (Nat.le_trans hhi hB.size)) hz htx.1 htx.2.1 htx.2.2
      unfold mutC at CR
      have HCR := Lib.hid CR
      obtain ⟨AM, cM, LM, rfl, -, -, hLM, hRM⟩ := HO.out.rd
      have HRM := Lib.hid hRM
      have HLM := Lib.hid hLM
      clear CR hc htx hz hLM hRM
      obtain ⟨g, hg⟩ : ∃ g, mrtB x.m = g := ⟨_, rfl⟩
      rw [hg] at HST HCR
      go_wp2_with fail
      refine HCR.out.mono ?_
      clear HCR
      rintro e w1 ⟨rfl, b1⟩
      replace c0 := (b1.cell (p := ⟨b, off + k * 10, none⟩) (Nat.lt_of_lt_of_le HBB.out hB.size)).trans c0
      replace c1 := (b1.cell (p := ⟨b, off + k * 10 + 1, none⟩) (Nat.lt_of_lt_of_le HBB.out hB.size)).trans c1
      replace c2 := (b1.cell (p := ⟨b, off + k * 10 + 2, none⟩) (Nat.lt_of_lt_of_le HBB.out hB.size)).trans c2
      replace c3 := (b1.cell (p := ⟨b, off + k * 10 + 3, none⟩) (Nat.lt_of_lt_of_le HBB.out hB.size)).trans c3
      replace c4 := (b1.cell (p := ⟨b, off + k * 10 + 4, none⟩) (Nat.lt_of_lt_of_le HBB.out hB.size)).trans c4
      replace c5 := (b1.cell (p := ⟨b, off + k * 10 + 5, none⟩) (Nat.lt_of_lt_of_le HBB.out hB.size)).trans c5
      replace c6 := (b1.cell (p := ⟨b, off + k * 10 + 6, none⟩) (Nat.lt_of_lt_of_le HBB.out hB.size)).trans c6
      replace c7 := (b1.cell (p := ⟨b, off + k * 10 + 7, none⟩) (Nat.lt_of_lt_of_le HBB.out hB.size)).trans c7
      replace c8 := (b1.cell (p := ⟨b, off + k * 10 + 8, none⟩) (Nat.lt_of_lt_of_le HBB.out hB.size)).trans c8
      replace c9 := (b1.cell (p := ⟨b, off + k * 10 + 9, none⟩) (Nat.lt_of_lt_of_le HBB.out hB.size)).trans c9
      have hB1 := hB.trans (b1.mono hB.size)
      replace HO := Lib.hid (HO.out.below b1 (Nat.le_trans hhi hB.size))
      cases g with
      | false =>
        clear c0 c1 c2 c3 c4 c5 c6 c7 c8 c9
        go_wp2_with fail
        go_roundw
        case rel => exact ⟨k + 1, by go_num, hkn, by rw [HST.out]; exact HO.out, hB1⟩
        case measure => simp [RowKit.intOf]; omega
      | true =>
        have CI := Lib.hid (ref07_Insert x.m x.A x.n x.c AM R.length cM LM hi w1 (HRM.out.below b1 (Nat.le_trans hhi hB.size)) (HRX.out.below (b1.mono (Nat.le_trans hhi hB.size))) HZ2.out (Nat.le_trans hhi hB1.size) (by omega))
        unfold mutC at CI
        go_wp2_with fail
        refine CI.out.mono ?_
        clear CI
        rintro e w2 ⟨v2, rfl, O2, b2⟩
        rw [HLM.out] at O2
        go_wp2_with fail
        go_roundw
        case rel => exact ⟨k + 1, by go_num, hkn, by rw [HST.out]; exact O2.base_le hB1.size, hB1.trans (b2.mono hB1.size)⟩
        case measure => simp [RowKit.intOf]; omega
    · have hkn : k = n := by omega
      subst hkn
      rw [List.take_of_length_le (by rw [List.length_map, HLL.out]; exact Nat.le_refl _)] at hO
      go_wp2_with fail
      go_ret
      exact ⟨_, rfl, hO, hB⟩
end Go.Proofs.YthbhbechemnidaaDoor

namespace Go.Proofs.YthbhbechemnidaaDoor
open Go.RowKit Go.Sort

theorem mem_less (a b : Mut) : decide (cmpMem a b < 0) = (Op.bytesLess a.key.toList b.key.toList || (a.key.toList == b.key.toList && decide (cmpM a b < 0))) := by
  rcases cmpT_cases a.key b.key with ⟨h, e⟩ | ⟨h, h2, e⟩ | ⟨h, h2, e⟩
  · have : cmpMem a b = -1 := by unfold cmpMem orL; rw [e]; rfl
    rw [this, h]; rfl
  · have : cmpMem a b = 1 := by unfold cmpMem orL; rw [e]; rfl
    rw [this, h, h2]; rfl
  · rw [cmpMem_eq (eq_of_beq h2), h, h2]; rfl

set_option maxRecDepth 100000 in
set_option maxHeartbeats 2000000 in
theorem ref15_Less (m1 m2 : Mut) (A1 A2 : Option Addr) (n1 c1 n2 c2 : Nat) (w : World) (hr1 : Reads w w.heap.size 3 A1 n1 (m1.ov.flatMap sc)) (hr2 : Reads w w.heap.size 3 A2 n2 (m2.ov.flatMap sc)) (hn1 : n1 ≤ 1000000000) :
    Calls Tryd.prog 93 #[.agg (mutC m1 (.slice A1 n1 c1)), .agg (mutC m2 (.slice A2 n2 c2))] w fun e w' => e = .returned (.bool (decide (cmpMem m1 m2 < 0))) ∧ Below w.heap.size w w' := by
  have BK1 := (Blk.new w 35 (mutC m1 (.slice A1 n1 c1))).alloc (.cells (mutC m2 (.slice A2 n2 c2)) 35)
  have BK2 := Blk.new (w.alloc (.cells (mutC m1 (.slice A1 n1 c1)) 35)) 35 (mutC m2 (.slice A2 n2 c2))
  have hB : Below w.heap.size w ((w.alloc (.cells (mutC m1 (.slice A1 n1 c1)) 35)).alloc (.cells (mutC m2 (.slice A2 n2 c2)) 35)) := ((Below.refl _ _).alloc (Nat.le_refl _) _).alloc (by simp) _
  have HR1 := Lib.hid (((hr1.alloc (Nat.le_refl _) (.cells (mutC m1 (.slice A1 n1 c1)) 35)).alloc (by simp) (.cells (mutC m2 (.slice A2 n2 c2)) 35)).more hB.size)
  have HR2 := Lib.hid (((hr2.alloc (Nat.le_refl _) (.cells (mutC m1 (.slice A1 n1 c1)) 35)).alloc (by simp) (.cells (mutC m2 (.slice A2 n2 c2)) 35)).more hB.size)
  simp only [World.size_alloc] at BK2
  clear hr1 hr2
  have C := ref07_Compare m1 m2 A1 A2 n1 c1 n2 c2 _ HR1.out HR2.out hn1
  have e := mem_less m1 m2
  obtain ⟨u1, h1⟩ : ∃ q, Op.bytesLess m1.key.toList m2.key.toList = q := ⟨_, rfl⟩
  obtain ⟨u2, h2⟩ : ∃ q, (m1.key.toList == m2.key.toList) = q := ⟨_, rfl⟩
  obtain ⟨cz, h3⟩ : ∃ q, cmpM m1 m2 = q := ⟨_, rfl⟩
  rw [h1, h2, h3] at e
  rw [h3] at C
  have C := Lib.hid C
  have HE := Lib.hid e
  clear e h3
  go_enter Tryd.func93, Tryd.ntmps93
  go_upto_region 1 with fail
  generalize ((w.alloc (.cells (mutC m1 (.slice A1 n1 c1)) 35)).alloc (.cells (mutC m2 (.slice A2 n2 c2)) 35)) = W at *
  unfold mutC at C
  have q0 : W.cell? ⟨w.heap.size, 0, none⟩ = some (.int .i64 m1.tab) := BK1.cell 0
  have q1 : W.cell? ⟨w.heap.size, 1, none⟩ = some (.int .i64 m1.kind) := BK1.cell 1
  have q2 : W.cell? ⟨w.heap.size, 2, none⟩ = some (.string m1.key) := BK1.cell 2
  have q3 : W.cell? ⟨w.heap.size, 3, none⟩ = some (.string m1.en) := BK1.cell 3
  have q4 : W.cell? ⟨w.heap.size, 4, none⟩ = some (.string m1.val) := BK1.cell 4
  have q5 : W.cell? ⟨w.heap.size, 5, none⟩ = some (.int .i64 m1.exp) := BK1.cell 5
  have q6 : W.cell? ⟨w.heap.size, 6, none⟩ = some (.int .i64 m1.at_.1) := BK1.cell 6
  have q7 : W.cell? ⟨w.heap.size, 7, none⟩ = some (.int .i64 m1.at_.2.1) := BK1.cell 7
  have q8 : W.cell? ⟨w.heap.size, 8, none⟩ = some (.int .i64 m1.at_.2.2) := BK1.cell 8
  have q9 : W.cell? ⟨w.heap.size, 9, none⟩ = some (.slice A1 n1 c1) := BK1.cell 9
  have t0 : W.cell? ⟨w.heap.size + 1, 0, none⟩ = some (.int .i64 m2.tab) := BK2.cell 0
  have t1 : W.cell? ⟨w.heap.size + 1, 1, none⟩ = some (.int .i64 m2.kind) := BK2.cell 1
  have t2 : W.cell? ⟨w.heap.size + 1, 2, none⟩ = some (.string m2.key) := BK2.cell 2
  have t3 : W.cell? ⟨w.heap.size + 1, 3, none⟩ = some (.string m2.en) := BK2.cell 3
  have t4 : W.cell? ⟨w.heap.size + 1, 4, none⟩ = some (.string m2.val) := BK2.cell 4
  have t5 : W.cell? ⟨w.heap.size + 1, 5, none⟩ = some (.int .i64 m2.exp) := BK2.cell 5
  have t6 : W.cell? ⟨w.heap.size + 1, 6, none⟩ = some (.int .i64 m2.at_.1) := BK2.cell 6
  have t7 : W.cell? ⟨w.heap.size + 1, 7, none⟩ = some (.int .i64 m2.at_.2.1) := BK2.cell 7
  have t8 : W.cell? ⟨w.heap.size + 1, 8, none⟩ = some (.int .i64 m2.at_.2.2) := BK2.cell 8
  have t9 : W.cell? ⟨w.heap.size + 1, 9, none⟩ = some (.slice A2 n2 c2) := BK2.cell 9
  cases u1 with
  | true =>
    go_wp2_with fail
    go_ret
    exact ⟨by rw [HE.out]; rfl, hB⟩
  | false =>
  cases u2 with
  | false =>
    go_wp2_with fail
    go_ret
    exact ⟨by rw [HE.out]; rfl, hB⟩
  | true =>
  obtain ⟨u3, h4⟩ : ∃ q, decide (cz < 0) = q := ⟨_, rfl⟩
  rw [h4] at HE
  go_wp2_with fail
  refine C.out.mono ?_
  rintro x w2 ⟨rfl, b2⟩
  cases u3
  all_goals
    go_wp2_with fail
    go_ret
    exact ⟨by rw [HE.out]; rfl, hB.trans (b2.mono hB.size)⟩

def p15 (m x : Mut) : Bool := !(decide (cmpMem x m < 0))
def q15 (m x : Mut) : Bool := !(cmpM x m == 0)
def ins15 (m : Mut) (l : List Mut) : List Mut := insPQ (p15 m) (q15 m) m l
def sort15 (l : List Mut) : List Mut := l.foldl (fun s m => ins15 m s) []
theorem sort15_step (l : List Mut) (k : Nat) (hk : k < l.length) : sort15 (l.take (k + 1)) = ins15 l[k] (sort15 (l.take k)) := by
  unfold sort15
  rw [List.take_succ_eq_append_getElem hk, List.foldl_append]
  rfl
theorem sort15_len : ∀ (l : List Mut) (s : List Mut), (l.foldl (fun s m => ins15 m s) s).length ≤ s.length + l.length
  | [], s => Nat.le_refl _
  | m :: l, s => by
    rw [List.foldl_cons]
    refine Nat.le_trans (sort15_len l _) ?_
    rw [List.length_cons]
    have := insPQ_len (p15 m) (q15 m) m s
    unfold ins15
    omega

set_option maxRecDepth 100000 in
set_option maxHeartbeats 8000000 in
theorem ref15_Sort (A : Option Addr) (n c : Nat) (L : List MutS) (hi : Nat) (w : World) (hr : RdL w hi A n L) (hhi : hi ≤ w.heap.size) (hn : n ≤ 1000) :
    Calls Tryd.prog 51 #[.slice A n c] w fun e w' => ∃ v, e = .returned v ∧ OwnL w' hi w.heap.size v (sort15 (L.map (·.m))) ∧ Below w.heap.size w w' := by
  have HLL := Lib.hid (muts_n hr.1)
  have HR := Lib.hid hr
  clear hr
  have O0 := OwnL.nil_ w hi w.heap.size
  go_enter Tryd.func51, Tryd.ntmps51
  go_wp2_with fail
  go_loopw [3, 4, 5, 6, 7] (fun v3 v4 _ _ _ wr => ∃ (k : Nat), v4 = .int .i64 k ∧ k ≤ n ∧ OwnL wr hi w.heap.size v3 (sort15 ((L.map (·.m)).take k)) ∧ Below w.heap.size w wr) (fun _ v4 _ _ _ _ => n - (RowKit.intOf v4).toNat)
  case atStart => exact ⟨0, rfl, Nat.zero_le _, O0, Below.refl _ _⟩
  case round =>
    clear O0
    obtain ⟨k, rfl, hk, hO, hB⟩ := hrel
    by_cases hkn : k < n
    · have hkT : k < L.length := by have := HLL.out; omega
      obtain ⟨x, b, off, hx, hA, hb, hc0, hrx0, hz, hz2⟩ := RdL.at_ HR.out hkT
      subst hA
      have HCX : Hid (∀ i u, i < 10 → (mutL x)[i]? = some u → w.cell? ⟨b, off + k * 10 + i, none⟩ = some u) := Lib.hid hc0
      have HRX := Lib.hid hrx0
      have HBB := Lib.hid hb
      have hst := sort15_step (L.map (·.m)) k (by rw [List.length_map]; exact hkT)
      rw [List.getElem_map, hx] at hst
      have HZ2 : Hid (x.n ≤ 1000000000 ∧ (x.A = none → x.c = 0)) := Lib.hid ⟨hz, hz2⟩
      have hlen : (sort15 ((L.map (·.m)).take k)).length ≤ 1000 := by
        have := sort15_len ((L.map (·.m)).take k) []
        rw [List.length_take] at this
        unfold sort15
        simp at this ⊢
        omega
      obtain ⟨R, hR⟩ : ∃ R, sort15 ((L.map (·.m)).take k) = R := ⟨_, rfl⟩
      rw [hR] at hst hO hlen
      obtain ⟨AM, cM, LM, rfl, -, -, hLM, hRM⟩ := hO.rd
      obtain ⟨m, hm⟩ : ∃ m, R.length = m := ⟨_, rfl⟩
      rw [hm] at hlen hRM
      rw [hm]
      have HLML : Hid (LM.length = m) := Lib.hid (by rw [← hm, ← hLM, List.length_map])
      obtain ⟨wo, hwo⟩ : ∃ wo, wo = wr := ⟨_, rfl⟩
      subst hwo
      have HRM := Lib.hid hRM
      have HLM := Lib.hid hLM
      obtain ⟨ST, hST⟩ : ∃ ST, (LM.map (·.m)).foldl (insG (p15 x.m) (q15 x.m) x.m) (false, []) = ST := ⟨_, rfl⟩
      have HS0 : Hid (((LM.map (·.m)).drop 0).foldl (insG (p15 x.m) (q15 x.m) x.m) (false, []) = ST) := Lib.hid (by rw [List.drop_zero]; exact hST)
      have HFIN : Hid (sort15 ((L.map (·.m)).take (k + 1)) = insE x.m ST) := Lib.hid (by rw [hst, ← hLM]; unfold ins15 insPQ; rw [hST])
      have hs0 := hB.size
      have O0 := OwnL.nil_ wo hi wo.heap.size
      clear hc0 hrx0 hb hx hz2 hst hR hO hLM hRM hST hm
      go_wp2_with fail
      go_loopw [5, 6, 7] (fun v5 v6 v7 wr => ∃ (j : Nat) (i : Bool) (M : List Mut), v6 = .bool i ∧ v7 = .int .i64 j ∧ j ≤ m ∧ M.length ≤ 2 * j ∧ OwnL wr hi wo.heap.size v5 M ∧ ((LM.map (·.m)).drop j).foldl (insG (p15 x.m) (q15 x.m) x.m) (i, M) = ST ∧ Below wo.heap.size wo wr) (fun _ _ v7 _ => m - (RowKit.intOf v7).toNat)
      case atStart => exact ⟨0, false, [], rfl, rfl, Nat.zero_le _, Nat.le_refl _, O0, HS0.out, Below.refl _ _⟩
      case round =>
        clear O0 HS0
        obtain ⟨j, i, M, rfl, rfl, hj, hMl, hO, hS, hBo⟩ := hrel
        have HO := Lib.hid hO
        have HS := Lib.hid hS
        clear hO hS
        have hs1 := hBo.size
        have hBw := hB.trans (hBo.mono hs0)
        have HCX' : Hid (∀ i u, i < 10 → (mutL x)[i]? = some u → wr.cell? ⟨b, off + k * 10 + i, none⟩ = some u) := Lib.hid (fun i u hi h => (hBw.cell (p := ⟨b, off + k * 10 + i, none⟩) HBB.out).trans (HCX.out i u hi h))
        have HRX' := Lib.hid (HRX.out.below (hBw.mono hhi))
        by_cases hjm : j < m
        · have hjT : j < LM.length := by have := HLML.out; omega
          obtain ⟨y, b2, off2, hy, hA2, hb2, hd0, hry0, hz3, hz4⟩ := RdL.at_ HRM.out hjT
          subst hA2
          have hd : ∀ i u, i < 10 → (mutL y)[i]? = some u → wr.cell? ⟨b2, off2 + j * 10 + i, none⟩ = some u := fun i u hi h => (hBo.cell (p := ⟨b2, off2 + j * 10 + i, none⟩) hb2).trans (hd0 i u hi h)
          have hry := hry0.below (hBo.mono (Nat.le_trans hhi hs0))
          have HRY := Lib.hid hry
          have HB2 := Lib.hid hb2
          have hHY : Hid ((LM.map (·.m))[j]'(by rw [List.length_map]; exact hjT) = y.m) := Lib.hid (by rw [List.getElem_map, hy])
          have HZ4 : Hid (y.n ≤ 1000000000 ∧ (y.A = none → y.c = 0)) := Lib.hid ⟨hz3, hz4⟩
          clear hd0 hry0 hry hb2 hy hz4
          have c0 : wr.cell? ⟨b, off + k * 10, none⟩ = some (.int .i64 x.m.tab) := HCX'.out 0 _ (by decide) rfl
          have c1 : wr.cell? ⟨b, off + k * 10 + 1, none⟩ = some (.int .i64 x.m.kind) := HCX'.out 1 _ (by decide) rfl
          have c2 : wr.cell? ⟨b, off + k * 10 + 2, none⟩ = some (.string x.m.key) := HCX'.out 2 _ (by decide) rfl
          have c3 : wr.cell? ⟨b, off + k * 10 + 3, none⟩ = some (.string x.m.en) := HCX'.out 3 _ (by decide) rfl
          have c4 : wr.cell? ⟨b, off + k * 10 + 4, none⟩ = some (.string x.m.val) := HCX'.out 4 _ (by decide) rfl
          have c5 : wr.cell? ⟨b, off + k * 10 + 5, none⟩ = some (.int .i64 x.m.exp) := HCX'.out 5 _ (by decide) rfl
          have c6 : wr.cell? ⟨b, off + k * 10 + 6, none⟩ = some (.int .i64 x.m.at_.1) := HCX'.out 6 _ (by decide) rfl
          have c7 : wr.cell? ⟨b, off + k * 10 + 7, none⟩ = some (.int .i64 x.m.at_.2.1) := HCX'.out 7 _ (by decide) rfl
          have c8 : wr.cell? ⟨b, off + k * 10 + 8, none⟩ = some (.int .i64 x.m.at_.2.2) := HCX'.out 8 _ (by decide) rfl
          have c9 : wr.cell? ⟨b, off + k * 10 + 9, none⟩ = some (.slice x.A x.n x.c) := HCX'.out 9 _ (by decide) rfl
          have t0 : wr.cell? ⟨b2, off2 + j * 10, none⟩ = some (.int .i64 y.m.tab) := hd 0 _ (by decide) rfl
          have t1 : wr.cell? ⟨b2, off2 + j * 10 + 1, none⟩ = some (.int .i64 y.m.kind) := hd 1 _ (by decide) rfl
          have t2 : wr.cell? ⟨b2, off2 + j * 10 + 2, none⟩ = some (.string y.m.key) := hd 2 _ (by decide) rfl
          have t3 : wr.cell? ⟨b2, off2 + j * 10 + 3, none⟩ = some (.string y.m.en) := hd 3 _ (by decide) rfl
          have t4 : wr.cell? ⟨b2, off2 + j * 10 + 4, none⟩ = some (.string y.m.val) := hd 4 _ (by decide) rfl
          have t5 : wr.cell? ⟨b2, off2 + j * 10 + 5, none⟩ = some (.int .i64 y.m.exp) := hd 5 _ (by decide) rfl
          have t6 : wr.cell? ⟨b2, off2 + j * 10 + 6, none⟩ = some (.int .i64 y.m.at_.1) := hd 6 _ (by decide) rfl
          have t7 : wr.cell? ⟨b2, off2 + j * 10 + 7, none⟩ = some (.int .i64 y.m.at_.2.1) := hd 7 _ (by decide) rfl
          have t8 : wr.cell? ⟨b2, off2 + j * 10 + 8, none⟩ = some (.int .i64 y.m.at_.2.2) := hd 8 _ (by decide) rfl
          have t9 : wr.cell? ⟨b2, off2 + j * 10 + 9, none⟩ = some (.slice y.A y.n y.c) := hd 9 _ (by decide) rfl
          obtain ⟨cz, hcz⟩ : ∃ cz, cmpM y.m x.m = cz := ⟨_, rfl⟩
          obtain ⟨lz, hlz⟩ : ∃ lz, decide (cmpMem y.m x.m < 0) = lz := ⟨_, rfl⟩
          have hhw : hi ≤ wr.heap.size := Nat.le_trans (Nat.le_trans hhi hs0) hs1
          have CL := fun d os => Calls.regrown_of (d := d) (os := os) (w := wr) (ref15_Less y.m x.m y.A x.A y.n y.c x.n x.c (grow (redrawn wr d) os) ((HRY.out.below ((below_regrown wr d os).mono hhw)).more (Nat.le_trans hhw (below_regrown wr d os).size)) ((HRX'.out.below ((below_regrown wr d os).mono hhw)).more (Nat.le_trans hhw (below_regrown wr d os).size)) hz3)
          rw [hlz] at CL
          unfold mutC at CL
          have HCL := Lib.hid CL
          have HCZ := Lib.hid hcz
          have HLZ := Lib.hid hlz
          clear CL hcz hlz hd
          go_upto_region 10 with fail
          go_cut [33] from 14 to 57 (fun s33 wx => s33 = .bool (!i && !lz) ∧ Below wr.heap.size wr wx)
          case first =>
            cases i with
            | true =>
              clear c0 c1 c2 c3 c4 c5 c6 c7 c8 c9 t0 t1 t2 t3 t4 t5 t6 t7 t8 t9
              go_region
              go_wp2_with fail
              go_meet
              case rel => exact ⟨by first | rfl | (simp; done), (Below.refl _ wr).drew⟩
            | false =>
              have s0 := cell_regrown c0
              have s1 := cell_regrown c1
              have s2 := cell_regrown c2
              have s3 := cell_regrown c3
              have s4 := cell_regrown c4
              have s5 := cell_regrown c5
              have s6 := cell_regrown c6
              have s7 := cell_regrown c7
              have s8 := cell_regrown c8
              have s9 := cell_regrown c9
              have z0 := cell_regrown t0
              have z1 := cell_regrown t1
              have z2 := cell_regrown t2
              have z3 := cell_regrown t3
              have z4 := cell_regrown t4
              have z5 := cell_regrown t5
              have z6 := cell_regrown t6
              have z7 := cell_regrown t7
              have z8 := cell_regrown t8
              have z9 := cell_regrown t9
              clear c0 c1 c2 c3 c4 c5 c6 c7 c8 c9 t0 t1 t2 t3 t4 t5 t6 t7 t8 t9
              refine wp_region_quiet_below (by kernel_rfl) (by kernel_rfl) ?_
              repeat (go_big_quiet_step (exact HCL.out _ _))
              refine wpQuiet_nil ?_
              rintro w1 ⟨⟨dq, osq⟩, rfl⟩
              have b9 := below_regrown wr dq osq
              clear HCL
              go_wp2_with fail
              go_meet
              case rel => exact ⟨by cases lz <;> rfl, b9⟩
          case rest =>
          obtain ⟨rfl, b9⟩ := hcut
          clear HCL
          obtain ⟨q33, hq33⟩ : ∃ q33, (!i && !lz) = q33 := ⟨_, rfl⟩
          have HQ33 := Lib.hid hq33
          rw [hq33]
          clear hq33
          replace c0 := (b9.cell (p := ⟨b, off + k * 10, none⟩) (Nat.lt_of_lt_of_le HBB.out hBw.size)).trans c0
          replace t0 := (b9.cell (p := ⟨b2, off2 + j * 10, none⟩) (Nat.lt_of_lt_of_le HB2.out hs1)).trans t0
          replace c1 := (b9.cell (p := ⟨b, off + k * 10 + 1, none⟩) (Nat.lt_of_lt_of_le HBB.out hBw.size)).trans c1
          replace t1 := (b9.cell (p := ⟨b2, off2 + j * 10 + 1, none⟩) (Nat.lt_of_lt_of_le HB2.out hs1)).trans t1
          replace c2 := (b9.cell (p := ⟨b, off + k * 10 + 2, none⟩) (Nat.lt_of_lt_of_le HBB.out hBw.size)).trans c2
          replace t2 := (b9.cell (p := ⟨b2, off2 + j * 10 + 2, none⟩) (Nat.lt_of_lt_of_le HB2.out hs1)).trans t2
          replace c3 := (b9.cell (p := ⟨b, off + k * 10 + 3, none⟩) (Nat.lt_of_lt_of_le HBB.out hBw.size)).trans c3
          replace t3 := (b9.cell (p := ⟨b2, off2 + j * 10 + 3, none⟩) (Nat.lt_of_lt_of_le HB2.out hs1)).trans t3
          replace c4 := (b9.cell (p := ⟨b, off + k * 10 + 4, none⟩) (Nat.lt_of_lt_of_le HBB.out hBw.size)).trans c4
          replace t4 := (b9.cell (p := ⟨b2, off2 + j * 10 + 4, none⟩) (Nat.lt_of_lt_of_le HB2.out hs1)).trans t4
          replace c5 := (b9.cell (p := ⟨b, off + k * 10 + 5, none⟩) (Nat.lt_of_lt_of_le HBB.out hBw.size)).trans c5
          replace t5 := (b9.cell (p := ⟨b2, off2 + j * 10 + 5, none⟩) (Nat.lt_of_lt_of_le HB2.out hs1)).trans t5
          replace c6 := (b9.cell (p := ⟨b, off + k * 10 + 6, none⟩) (Nat.lt_of_lt_of_le HBB.out hBw.size)).trans c6
          replace t6 := (b9.cell (p := ⟨b2, off2 + j * 10 + 6, none⟩) (Nat.lt_of_lt_of_le HB2.out hs1)).trans t6
          replace c7 := (b9.cell (p := ⟨b, off + k * 10 + 7, none⟩) (Nat.lt_of_lt_of_le HBB.out hBw.size)).trans c7
          replace t7 := (b9.cell (p := ⟨b2, off2 + j * 10 + 7, none⟩) (Nat.lt_of_lt_of_le HB2.out hs1)).trans t7
          replace c8 := (b9.cell (p := ⟨b, off + k * 10 + 8, none⟩) (Nat.lt_of_lt_of_le HBB.out hBw.size)).trans c8
          replace t8 := (b9.cell (p := ⟨b2, off2 + j * 10 + 8, none⟩) (Nat.lt_of_lt_of_le HB2.out hs1)).trans t8
          replace c9 := (b9.cell (p := ⟨b, off + k * 10 + 9, none⟩) (Nat.lt_of_lt_of_le HBB.out hBw.size)).trans c9
          replace t9 := (b9.cell (p := ⟨b2, off2 + j * 10 + 9, none⟩) (Nat.lt_of_lt_of_le HB2.out hs1)).trans t9
          replace HO := Lib.hid (HO.out.below b9 hhw)
          replace HRX' := Lib.hid (HRX'.out.below (b9.mono hhw))
          replace HRY := Lib.hid (HRY.out.below (b9.mono hhw))
          have hBo9 := hBo.trans (b9.mono hs1)
          have hhw9 := Nat.le_trans hhw b9.size
          have hsz9 := hBo9.size
          obtain ⟨W5, hW5⟩ : ∃ W5, W5 = wc := ⟨_, rfl⟩
          subst hW5
          clear b9 HCX'
          go_upto_if 33 with fail
          have hMl9 : M.length ≤ 1000000000 := by omega
          obtain ⟨A5, cc5, L5, rfl, -, -, -, -⟩ := HO.out.rd
          go_cut [5, 6] from 14 to 57 (fun s5 s6 wx => OwnL wx hi wo.heap.size s5 (if q33 = true then M ++ [x.m] else M) ∧ s6 = .bool (if q33 = true then true else i) ∧ Below wo.heap.size W5 wx)
          case first =>
            cases q33
            · go_wp2_with fail
              go_meet
              case rel => exact ⟨HO.out, rfl, Below.refl _ _⟩
            · go_wp2_with (at_builtin; go_must (refine append_mut_l W5 x.m x.A x.n x.c _ (by unfold mutC; simp) rfl _ _ rfl hi wo.heap.size _ M rfl HO.out HRX'.out HZ2.out (Nat.le_trans hhi hs0) rfl hMl9 hsz9 ?_); intro v7 w7 O7 b7)
              go_meet
              case rel => exact ⟨O7, rfl, b7⟩
          case rest =>
          obtain ⟨O6, rfl, b6⟩ := hcut
          obtain ⟨M6, hM6⟩ : ∃ M6, (if q33 = true then M ++ [x.m] else M) = M6 := ⟨_, rfl⟩
          obtain ⟨i6, hi6⟩ : ∃ i6, (if q33 = true then true else i) = i6 := ⟨_, rfl⟩
          have hlM6 : M6.length ≤ 2 * j + 1 := by
            rw [← hM6]
            split
            · rw [List.length_append]; show M.length + 1 ≤ _; omega
            · omega
          have HST : Hid (insG (p15 x.m) (q15 x.m) x.m (i, M) y.m = if cz = 0 then (i6, M6) else (i6, M6 ++ [y.m])) := Lib.hid (by
            rw [← hM6, ← hi6]
            unfold insG insA p15 q15
            rw [HCZ.out, HLZ.out]
            show (if (!(cz == 0)) = true then ((if (!i && !lz) = true then (true, M ++ [x.m]) else (i, M)).1, (if (!i && !lz) = true then (true, M ++ [x.m]) else (i, M)).2 ++ [y.m]) else if (!i && !lz) = true then (true, M ++ [x.m]) else (i, M)) = _
            rw [HQ33.out]
            by_cases h0 : cz = 0
            · subst h0
              cases q33 <;> simp
            · cases q33 <;> simp [h0])
          rw [hM6] at O6
          rw [hi6]
          obtain ⟨A6, cc6, L6, rfl, -, -, -, -⟩ := O6.rd
          have hMl6 : M6.length ≤ 1000000000 := by omega
          have hBo6 := hBo9.trans b6
          have hsz6 : wo.heap.size ≤ wc.heap.size := hBo6.size
          have hhw6 : hi ≤ wc.heap.size := Nat.le_trans (Nat.le_trans hhi hs0) hsz6
          have HO6 := Lib.hid O6
          have HRX6 := Lib.hid (HRX'.out.below (b6.mono (Nat.le_trans hhi hs0)))
          have HRY6 := Lib.hid (HRY.out.below (b6.mono (Nat.le_trans hhi hs0)))
          replace c0 := (b6.cell (p := ⟨b, off + k * 10, none⟩) (Nat.lt_of_lt_of_le HBB.out hs0)).trans c0
          replace t0 := (b6.cell (p := ⟨b2, off2 + j * 10, none⟩) HB2.out).trans t0
          replace c1 := (b6.cell (p := ⟨b, off + k * 10 + 1, none⟩) (Nat.lt_of_lt_of_le HBB.out hs0)).trans c1
          replace t1 := (b6.cell (p := ⟨b2, off2 + j * 10 + 1, none⟩) HB2.out).trans t1
          replace c2 := (b6.cell (p := ⟨b, off + k * 10 + 2, none⟩) (Nat.lt_of_lt_of_le HBB.out hs0)).trans c2
          replace t2 := (b6.cell (p := ⟨b2, off2 + j * 10 + 2, none⟩) HB2.out).trans t2
          replace c3 := (b6.cell (p := ⟨b, off + k * 10 + 3, none⟩) (Nat.lt_of_lt_of_le HBB.out hs0)).trans c3
          replace t3 := (b6.cell (p := ⟨b2, off2 + j * 10 + 3, none⟩) HB2.out).trans t3
          replace c4 := (b6.cell (p := ⟨b, off + k * 10 + 4, none⟩) (Nat.lt_of_lt_of_le HBB.out hs0)).trans c4
          replace t4 := (b6.cell (p := ⟨b2, off2 + j * 10 + 4, none⟩) HB2.out).trans t4
          replace c5 := (b6.cell (p := ⟨b, off + k * 10 + 5, none⟩) (Nat.lt_of_lt_of_le HBB.out hs0)).trans c5
          replace t5 := (b6.cell (p := ⟨b2, off2 + j * 10 + 5, none⟩) HB2.out).trans t5
          replace c6 := (b6.cell (p := ⟨b, off + k * 10 + 6, none⟩) (Nat.lt_of_lt_of_le HBB.out hs0)).trans c6
          replace t6 := (b6.cell (p := ⟨b2, off2 + j * 10 + 6, none⟩) HB2.out).trans t6
          replace c7 := (b6.cell (p := ⟨b, off + k * 10 + 7, none⟩) (Nat.lt_of_lt_of_le HBB.out hs0)).trans c7
          replace t7 := (b6.cell (p := ⟨b2, off2 + j * 10 + 7, none⟩) HB2.out).trans t7
          replace c8 := (b6.cell (p := ⟨b, off + k * 10 + 8, none⟩) (Nat.lt_of_lt_of_le HBB.out hs0)).trans c8
          replace t8 := (b6.cell (p := ⟨b2, off2 + j * 10 + 8, none⟩) HB2.out).trans t8
          replace c9 := (b6.cell (p := ⟨b, off + k * 10 + 9, none⟩) (Nat.lt_of_lt_of_le HBB.out hs0)).trans c9
          replace t9 := (b6.cell (p := ⟨b2, off2 + j * 10 + 9, none⟩) HB2.out).trans t9
          have HNX : Hid (∀ s, insG (p15 x.m) (q15 x.m) x.m (i, M) y.m = s → ((LM.map (·.m)).drop (j + 1)).foldl (insG (p15 x.m) (q15 x.m) x.m) s = ST) := Lib.hid (by
            rintro s hs
            have h9 := HS.out
            have hk9 : j < (LM.map (·.m)).length := by rw [List.length_map]; exact hjT
            rw [List.drop_eq_getElem_cons hk9, List.foldl_cons, hHY.out, hs] at h9
            exact h9)
          have CC := fun d os => Calls.regrown_of (d := d) (os := os) (w := wc) (ref07_Compare y.m x.m y.A x.A y.n y.c x.n x.c (grow (redrawn wc d) os) ((HRY6.out.below ((below_regrown wc d os).mono hhw6)).more (Nat.le_trans hhw6 (below_regrown wc d os).size)) ((HRX6.out.below ((below_regrown wc d os).mono hhw6)).more (Nat.le_trans hhw6 (below_regrown wc d os).size)) hz3)
          rw [HCZ.out] at CC
          unfold mutC at CC
          have HCC := Lib.hid CC
          clear CC hM6 hi6 O6 HO HRX' HRY HQ33 HCZ HLZ b6
          go_upto_region 13 with fail
          have s0 := cell_regrown c0
          have s1 := cell_regrown c1
          have s2 := cell_regrown c2
          have s3 := cell_regrown c3
          have s4 := cell_regrown c4
          have s5 := cell_regrown c5
          have s6 := cell_regrown c6
          have s7 := cell_regrown c7
          have s8 := cell_regrown c8
          have s9 := cell_regrown c9
          have z0 := cell_regrown t0
          have z1 := cell_regrown t1
          have z2 := cell_regrown t2
          have z3 := cell_regrown t3
          have z4 := cell_regrown t4
          have z5 := cell_regrown t5
          have z6 := cell_regrown t6
          have z7 := cell_regrown t7
          have z8 := cell_regrown t8
          have z9 := cell_regrown t9
          clear c0 c1 c2 c3 c4 c5 c6 c7 c8 c9
          refine wp_region_quiet_below (by kernel_rfl) (by kernel_rfl) ?_
          repeat (go_big_quiet_step (exact HCC.out _ _))
          refine wpQuiet_nil ?_
          rintro w1 ⟨⟨dq, osq⟩, rfl⟩
          have b9 := below_regrown wc dq osq
          clear HCC s0 s1 s2 s3 s4 s5 s6 s7 s8 s9 t0 t1 t2 t3 t4 t5 t6 t7 t8 t9
          replace z0 := z0 dq osq
          replace z1 := z1 dq osq
          replace z2 := z2 dq osq
          replace z3 := z3 dq osq
          replace z4 := z4 dq osq
          replace z5 := z5 dq osq
          replace z6 := z6 dq osq
          replace z7 := z7 dq osq
          replace z8 := z8 dq osq
          replace z9 := z9 dq osq
          replace HO6 := Lib.hid (HO6.out.below b9 hhw6)
          replace HRY6 := Lib.hid (HRY6.out.below (b9.mono hhw6))
          replace hBo6 := hBo6.trans (b9.mono hsz6)
          replace hsz6 := hBo6.size
          clear b9
          generalize grow (redrawn wc dq) osq = w9 at *
          by_cases h0 : cz = 0
          · have hd : (cz != 0) = false := by simp [h0]
            have HE := HST.out
            rw [if_pos h0] at HE
            have HF := Lib.hid (HNX.out _ HE)
            clear h0 HE HNX HST z0 z1 z2 z3 z4 z5 z6 z7 z8 z9
            go_wp2_with fail
            go_roundw
            case rel => exact ⟨j + 1, i6, M6, rfl, by go_num, hjm, by omega, HO6.out, HF.out, hBo6⟩
            case measure => simp [RowKit.intOf]; omega
          · have hd : (cz != 0) = true := by simp [h0]
            have HE := HST.out
            rw [if_neg h0] at HE
            have HF := Lib.hid (HNX.out _ HE)
            clear h0 HE HNX HST
            go_wp2_with (at_builtin; go_must (refine append_mut_l w9 y.m y.A y.n y.c _ (by unfold mutC; simp) rfl _ _ rfl hi wo.heap.size _ M6 rfl HO6.out HRY6.out HZ4.out (Nat.le_trans hhi hs0) rfl hMl6 hsz6 ?_); intro v7 w7 O7 b7)
            go_roundw
            case rel => exact ⟨j + 1, i6, M6 ++ [y.m], rfl, by go_num, hjm, by rw [List.length_append]; show M6.length + 1 ≤ _; omega, O7, HF.out, hBo6.trans b7⟩
            case measure => simp [RowKit.intOf]; omega
        · have hjm : j = m := by omega
          subst hjm
          have HS2 := HS.out
          rw [List.drop_eq_nil_of_le (by rw [List.length_map, HLML.out]; exact Nat.le_refl _)] at HS2
          rw [List.foldl_nil] at HS2
          subst HS2
          obtain ⟨A5, cc5, L5, rfl, -, -, -, -⟩ := HO.out.rd
          have hMl9 : M.length ≤ 1000000000 := by omega
          have c0 : wr.cell? ⟨b, off + k * 10, none⟩ = some (.int .i64 x.m.tab) := HCX'.out 0 _ (by decide) rfl
          have c1 : wr.cell? ⟨b, off + k * 10 + 1, none⟩ = some (.int .i64 x.m.kind) := HCX'.out 1 _ (by decide) rfl
          have c2 : wr.cell? ⟨b, off + k * 10 + 2, none⟩ = some (.string x.m.key) := HCX'.out 2 _ (by decide) rfl
          have c3 : wr.cell? ⟨b, off + k * 10 + 3, none⟩ = some (.string x.m.en) := HCX'.out 3 _ (by decide) rfl
          have c4 : wr.cell? ⟨b, off + k * 10 + 4, none⟩ = some (.string x.m.val) := HCX'.out 4 _ (by decide) rfl
          have c5 : wr.cell? ⟨b, off + k * 10 + 5, none⟩ = some (.int .i64 x.m.exp) := HCX'.out 5 _ (by decide) rfl
          have c6 : wr.cell? ⟨b, off + k * 10 + 6, none⟩ = some (.int .i64 x.m.at_.1) := HCX'.out 6 _ (by decide) rfl
          have c7 : wr.cell? ⟨b, off + k * 10 + 7, none⟩ = some (.int .i64 x.m.at_.2.1) := HCX'.out 7 _ (by decide) rfl
          have c8 : wr.cell? ⟨b, off + k * 10 + 8, none⟩ = some (.int .i64 x.m.at_.2.2) := HCX'.out 8 _ (by decide) rfl
          have c9 : wr.cell? ⟨b, off + k * 10 + 9, none⟩ = some (.slice x.A x.n x.c) := HCX'.out 9 _ (by decide) rfl
          cases i
          · go_wp2_with (at_builtin; go_must (refine append_mut_l wr x.m x.A x.n x.c _ (by unfold mutC; simp) rfl _ _ rfl hi wo.heap.size _ M rfl HO.out HRX'.out HZ2.out (Nat.le_trans hhi hs0) rfl hMl9 hs1 ?_); intro v7 w7 O7 b7)
            go_roundw
            case rel => exact ⟨k + 1, by go_num, hkn, by rw [HFIN.out]; exact O7.base_le hs0, hBw.trans (b7.mono hs0)⟩
            case measure => simp [RowKit.intOf]; omega
          · go_wp2_with fail
            go_roundw
            case rel => exact ⟨k + 1, by go_num, hkn, by rw [HFIN.out]; exact HO.out.base_le hs0, hBw⟩
            case measure => simp [RowKit.intOf]; omega
    · have hkn : k = n := by omega
      subst hkn
      rw [List.take_of_length_le (by rw [List.length_map, HLL.out]; exact Nat.le_refl _)] at hO
      go_wp2_with fail
      go_ret
      exact ⟨_, rfl, hO, hB⟩
end Go.Proofs.YthbhbechemnidaaDoor

namespace Go.Proofs.YthbhbechemnidaaDoor
open Go.RowKit Go.Sort

/-- The same, from the front. -/
def insR (p q : Mut → Bool) (m : Mut) : Bool → List Mut → List Mut
  | i, [] => if i = true then [] else [m]
  | i, x :: l => (if (!i && p x) = true then [m] else []) ++ ((if q x = true then [x] else []) ++ insR p q m (i || p x) l)
theorem insR_eq (p q : Mut → Bool) (m : Mut) : ∀ (l : List Mut) (i : Bool) (o : List Mut), insE m (l.foldl (insG p q m) (i, o)) = o ++ insR p q m i l
  | [], i, o => by
    show (if i = true then o else o ++ [m]) = o ++ (if i = true then [] else [m])
    cases i <;> simp
  | x :: l, i, o => by
    rw [List.foldl_cons]
    have h : insG p q m (i, o) x = (i || p x, o ++ ((if (!i && p x) = true then [m] else []) ++ (if q x = true then [x] else []))) := by
      unfold insG insA
      cases i <;> cases p x <;> cases q x <;> simp
    rw [h, insR_eq p q m l]
    show _ = o ++ ((if (!i && p x) = true then [m] else []) ++ ((if q x = true then [x] else []) ++ insR p q m (i || p x) l))
    simp
theorem insPQ_eq (p q : Mut → Bool) (m : Mut) (l : List Mut) : insPQ p q m l = insR p q m false l := insR_eq p q m l false []
theorem insR_mem (p q : Mut → Bool) (m y : Mut) : ∀ (l : List Mut) (i : Bool), y ∈ insR p q m i l → y = m ∨ y ∈ l
  | [], i, h => by
    have h' : y ∈ (if i = true then [] else [m]) := h
    cases i
    · exact .inl (List.mem_singleton.1 h')
    · cases h'
  | x :: l, i, h => by
    have h' : y ∈ (if (!i && p x) = true then [m] else []) ++ ((if q x = true then [x] else []) ++ insR p q m (i || p x) l) := h
    rcases List.mem_append.1 h' with h' | h'
    · split at h'
      · exact .inl (List.mem_singleton.1 h')
      · cases h'
    · rcases List.mem_append.1 h' with h' | h'
      · split at h'
        · exact .inr (by rw [List.mem_singleton.1 h']; exact List.mem_cons_self ..)
        · cases h'
      · rcases insR_mem p q m y l _ h' with h9 | h9
        · exact .inl h9
        · exact .inr (List.mem_cons_of_mem _ h9)
theorem insR_all (p q : Mut → Bool) (m y : Mut) : ∀ (l : List Mut) (i : Bool), (∀ x ∈ l, q x = true) → (y ∈ insR p q m i l ↔ (i = false ∧ y = m) ∨ y ∈ l)
  | [], i, _ => by
    show y ∈ (if i = true then [] else [m]) ↔ _
    cases i <;> simp
  | x :: l, i, h => by
    show y ∈ (if (!i && p x) = true then [m] else []) ++ ((if q x = true then [x] else []) ++ insR p q m (i || p x) l) ↔ _
    rw [if_pos (h x (List.mem_cons_self ..))]
    have ih := insR_all p q m y l (i || p x) (fun z hz => h z (List.mem_cons_of_mem _ hz))
    rw [List.mem_append, List.mem_append, ih]
    cases i <;> cases p x <;> simp
    · constructor
      · rintro (h | h | h)
        · exact .inr (.inl h)
        · exact .inl h
        · exact .inr (.inr h)
      · rintro (h | h | h)
        · exact .inr (.inl h)
        · exact .inl h
        · exact .inr (.inr h)
theorem cmpM_mem {a b : Mut} (h : cmpMem a b = 0) : cmpM a b = 0 := by
  have h0 : cmpT a.key b.key = 0 := by
    have h' : (if cmpT a.key b.key = 0 then orL [cmpM a b] else cmpT a.key b.key) = 0 := h
    split at h'
    · assumption
    · exact absurd h' (by assumption)
  rw [← cmpMem_eq ((cmpT_zero a.key b.key).1 h0)]
  exact h
theorem mem_cmpM {a b : Mut} (h : cmpM a b = 0) : cmpMem a b = 0 := by
  have h0 : cmpT a.key b.key = 0 := by
    have h' : orL [cmp3 a.at_ b.at_, cmpI a.tab b.tab, cmpI a.kind b.kind, cmpT a.key b.key, cmpT a.en b.en, cmpT a.val b.val, cmpI a.exp b.exp, cmpR a.ov b.ov] = 0 := h
    simp only [orL] at h'
    split at h'
    · split at h'
      · split at h'
        · split at h'
          · assumption
          · exact absurd h' (by assumption)
        · exact absurd h' (by assumption)
      · exact absurd h' (by assumption)
    · exact absurd h' (by assumption)
  rw [cmpMem_eq ((cmpT_zero a.key b.key).1 h0)]
  exact h
theorem lt_tr' {a b c : Mut} (h1 : cmpMem a b ≤ 0) (h2 : cmpMem b c < 0) : cmpMem a c < 0 := by
  have h3 := cmp_Mem.tr a b c h1 (by omega)
  rcases Int.lt_or_eq_of_le h3 with h | h
  · exact h
  · have := (cmp_Mem.zero h1 (by omega) h).2
    omega
theorem insR_true (p q : Mut → Bool) (m : Mut) : ∀ l : List Mut, insR p q m true l = l.filter q
  | [] => rfl
  | x :: l => by
    show (if (!true && p x) = true then [m] else []) ++ ((if q x = true then [x] else []) ++ insR p q m (true || p x) l) = _
    rw [Bool.true_or, insR_true p q m l, List.filter_cons]
    cases q x <;> rfl
theorem ins15_sorted (m : Mut) : ∀ l : List Mut, SortM l → SortM (insR (p15 m) (q15 m) m false l)
  | [], _ => List.pairwise_singleton _ _
  | x :: l, h => by
    obtain ⟨h1, h2⟩ := List.pairwise_cons.1 h
    show SortM ((if (!false && p15 m x) = true then [m] else []) ++ ((if q15 m x = true then [x] else []) ++ insR (p15 m) (q15 m) m (false || p15 m x) l))
    by_cases hlt : cmpMem x m < 0
    · have e1 : p15 m x = false := by unfold p15; rw [decide_eq_true hlt]; rfl
      have e2 : q15 m x = true := by
        unfold q15
        have : ¬ cmpM x m = 0 := fun h9 => by have := mem_cmpM h9; omega
        simp [this]
      rw [e1, e2]
      refine List.pairwise_cons.2 ⟨fun y hy => ?_, ins15_sorted m l h2⟩
      rcases insR_mem _ _ m y l _ hy with rfl | hy
      · exact hlt
      · exact h1 y hy
    · have e1 : p15 m x = true := by unfold p15; rw [decide_eq_false hlt]; rfl
      rw [e1, Bool.or_true, insR_true]
      have hmx : cmpMem m x ≤ 0 := by have := cmp_Mem.anti x m; omega
      have hS : SortM (m :: l.filter (q15 m)) := List.pairwise_cons.2 ⟨fun y hy => lt_tr' hmx (h1 y (List.mem_filter.1 hy).1), h2.filter _⟩
      by_cases h0 : cmpM x m = 0
      · have e2 : q15 m x = false := by unfold q15; simp [h0]
        rw [e2]
        exact hS
      · have e2 : q15 m x = true := by unfold q15; simp [h0]
        rw [e2]
        have hne : ¬ cmpMem m x = 0 := fun h9 => h0 (by
          have := cmpM_mem h9
          have := cmp_M.anti m x
          omega)
        have hmx' : cmpMem m x < 0 := by omega
        refine List.pairwise_cons.2 ⟨fun y hy => ?_, List.pairwise_cons.2 ⟨fun y hy => h1 y (List.mem_filter.1 hy).1, h2.filter _⟩⟩
        rcases List.mem_cons.1 hy with rfl | hy
        · exact hmx'
        · exact lt_tr hmx' (Int.le_of_lt (h1 y (List.mem_filter.1 hy).1))
theorem sort15_up : ∀ (l s : List Mut), SortM s → SortM (l.foldl (fun s m => ins15 m s) s)
  | [], _, h => h
  | m :: l, s, h => by
    rw [List.foldl_cons]
    refine sort15_up l _ ?_
    unfold ins15
    rw [insPQ_eq]
    exact ins15_sorted m s h
theorem sort15_mem (y : Mut) : ∀ (l s : List Mut), y ∈ l.foldl (fun s m => ins15 m s) s → y ∈ l ∨ y ∈ s
  | [], _, h => .inr h
  | m :: l, s, h => by
    rw [List.foldl_cons] at h
    rcases sort15_mem y l _ h with h | h
    · exact .inl (List.mem_cons_of_mem _ h)
    · unfold ins15 at h
      rw [insPQ_eq] at h
      rcases insR_mem _ _ m y s _ h with rfl | h
      · exact .inl (List.mem_cons_self ..)
      · exact .inr h
theorem right9_mem (y : Mut) : ∀ (l s : List Mut), y ∈ l.foldl (fun s m => if mrtB m = true then ins7 m s else s) s → (y ∈ l ∧ mrtB y = true) ∨ y ∈ s
  | [], _, h => .inr h
  | m :: l, s, h => by
    rw [List.foldl_cons] at h
    rcases right9_mem y l _ h with h | h
    · exact .inl ⟨List.mem_cons_of_mem _ h.1, h.2⟩
    · split at h
      · rename_i hm
        unfold ins7 at h
        rw [insPQ_eq] at h
        rcases insR_mem _ _ m y s _ h with rfl | h
        · exact .inl ⟨List.mem_cons_self .., hm⟩
        · exact .inr h
      · exact .inr h
/-- What is sorted may be, and rises. -/
theorem sorted_ok (l : List Mut) : PgOk (sort15 (right9 l)) := by
  refine ⟨fun m hm => ?_, sort15_up _ [] List.Pairwise.nil⟩
  rcases sort15_mem m _ [] hm with h | h
  · rcases right9_mem m l [] h with h | h
    · exact mrt_of h.2
    · cases h
  · cases h
theorem PgOk.take {l : List Mut} (h : PgOk l) (k : Nat) : PgOk (l.take k) := ⟨fun m hm => h.rt m (List.mem_of_mem_take hm), List.Pairwise.sublist (List.take_sublist k l) h.up⟩
/-- Of mutations none of which are alike nothing is lost. -/
theorem sort15_all (y : Mut) : ∀ (l s : List Mut), (∀ a ∈ s, ∀ b ∈ l, ¬ cmpM a b = 0) → l.Pairwise (fun a b => ¬ cmpM a b = 0) → (y ∈ l.foldl (fun s m => ins15 m s) s ↔ y ∈ l ∨ y ∈ s)
  | [], s, _, _ => by simp
  | m :: l, s, h, hp => by
    obtain ⟨h1, h2⟩ := List.pairwise_cons.1 hp
    have hq : ∀ x ∈ s, q15 m x = true := fun x hx => by unfold q15; simp [h x hx m (List.mem_cons_self ..)]
    have he : ∀ y, y ∈ ins15 m s ↔ y = m ∨ y ∈ s := fun y => by
      unfold ins15
      rw [insPQ_eq, insR_all _ _ m y s false hq]
      simp
    rw [List.foldl_cons, sort15_all y l (ins15 m s) (fun a ha b hb => by
      rcases (he a).1 ha with rfl | ha
      · exact h1 b hb
      · exact h a ha b (List.mem_cons_of_mem _ hb)) h2, he, List.mem_cons]
    constructor
    · rintro (h | h | h)
      · exact .inl (.inr h)
      · exact .inl (.inl h)
      · exact .inr h
    · rintro ((h | h) | h)
      · exact .inr (.inl h)
      · exact .inl h
      · exact .inr (.inr h)
theorem right9_all (y : Mut) : ∀ (l s : List Mut), (∀ m ∈ l, mrtB m = true) → (∀ a ∈ s, ∀ b ∈ l, ¬ cmpM a b = 0) → l.Pairwise (fun a b => ¬ cmpM a b = 0) → (y ∈ l.foldl (fun s m => if mrtB m = true then ins7 m s else s) s ↔ y ∈ l ∨ y ∈ s)
  | [], s, _, _, _ => by simp
  | m :: l, s, hm, h, hp => by
    obtain ⟨h1, h2⟩ := List.pairwise_cons.1 hp
    have hq : ∀ x ∈ s, q7 m x = true := fun x hx => by
      have h9 := h x hx m (List.mem_cons_self ..)
      have := cmp_M.anti x m
      have h10 : ¬ cmpM m x = 0 := by omega
      unfold q7
      simp [h10]
    have he : ∀ y, y ∈ ins7 m s ↔ y = m ∨ y ∈ s := fun y => by
      unfold ins7
      rw [insPQ_eq, insR_all _ _ m y s false hq]
      simp
    rw [List.foldl_cons, if_pos (hm m (List.mem_cons_self ..)), right9_all y l (ins7 m s) (fun x hx => hm x (List.mem_cons_of_mem _ hx)) (fun a ha b hb => by
      rcases (he a).1 ha with rfl | ha
      · exact h1 b hb
      · exact h a ha b (List.mem_cons_of_mem _ hb)) h2, he, List.mem_cons]
    constructor
    · rintro (h | h | h)
      · exact .inl (.inr h)
      · exact .inl (.inl h)
      · exact .inr h
    · rintro ((h | h) | h)
      · exact .inr (.inl h)
      · exact .inl h
      · exact .inr (.inr h)
theorem insR_pair {R : Mut → Mut → Prop} (p q : Mut → Bool) (m : Mut) : ∀ l : List Mut, (∀ x ∈ l, R m x ∧ R x m) → l.Pairwise R → (insR p q m false l).Pairwise R
  | [], _, _ => List.pairwise_singleton _ _
  | x :: l, h, hp => by
    obtain ⟨h1, h2⟩ := List.pairwise_cons.1 hp
    show List.Pairwise R ((if (!false && p x) = true then [m] else []) ++ ((if q x = true then [x] else []) ++ insR p q m (false || p x) l))
    have hx := h x (List.mem_cons_self ..)
    have hl : ∀ y ∈ l, R m y ∧ R y m := fun y hy => h y (List.mem_cons_of_mem _ hy)
    by_cases e1 : p x = true
    · rw [e1, Bool.or_true, insR_true]
      have hT : List.Pairwise R ((if q x = true then [x] else []) ++ l.filter q) := by
        split
        · exact List.pairwise_cons.2 ⟨fun y hy => h1 y (List.mem_filter.1 hy).1, h2.filter _⟩
        · exact h2.filter _
      refine List.pairwise_cons.2 ⟨fun y hy => ?_, hT⟩
      have hy : y ∈ (if q x = true then [x] else []) ++ l.filter q := hy
      rcases List.mem_append.1 hy with hy | hy
      · split at hy
        · rw [List.mem_singleton.1 hy]; exact hx.1
        · cases hy
      · exact (hl y (List.mem_filter.1 hy).1).1
    · have e1 : p x = false := by simpa using e1
      rw [e1]
      have ih := insR_pair (R := R) p q m l hl h2
      show List.Pairwise R ((if q x = true then [x] else []) ++ insR p q m false l)
      split
      · refine List.pairwise_cons.2 ⟨fun y hy => ?_, ih⟩
        rcases insR_mem _ _ m y l _ hy with rfl | hy
        · exact hx.2
        · exact h1 y hy
      · exact ih
theorem right9_pair : ∀ (l s : List Mut), (∀ a ∈ s, ∀ b ∈ l, ¬ cmpM a b = 0) → l.Pairwise (fun a b => ¬ cmpM a b = 0) → s.Pairwise (fun a b => ¬ cmpM a b = 0) → (l.foldl (fun s m => if mrtB m = true then ins7 m s else s) s).Pairwise (fun a b => ¬ cmpM a b = 0)
  | [], _, _, _, hs => hs
  | m :: l, s, h, hp, hs => by
    obtain ⟨h1, h2⟩ := List.pairwise_cons.1 hp
    rw [List.foldl_cons]
    refine right9_pair l _ (fun a ha b hb => ?_) h2 ?_
    · split at ha
      · unfold ins7 at ha
        rw [insPQ_eq] at ha
        rcases insR_mem _ _ m a s _ ha with rfl | ha
        · exact h1 b hb
        · exact h a ha b (List.mem_cons_of_mem _ hb)
      · exact h a ha b (List.mem_cons_of_mem _ hb)
    · split
      · unfold ins7
        rw [insPQ_eq]
        refine insR_pair (R := fun a b => ¬ cmpM a b = 0) _ _ m s (fun x hx => ?_) hs
        have h9 := h x hx m (List.mem_cons_self ..)
        have := cmp_M.anti x m
        exact ⟨by omega, h9⟩
      · exact hs
theorem cmpMem_self (m : Mut) : cmpMem m m = 0 := by have := cmp_Mem.anti m m; omega
theorem sorted_only : ∀ a b : List Mut, SortM a → SortM b → (∀ y, y ∈ a ↔ y ∈ b) → a = b
  | [], b, _, _, h => by
    cases b with
    | nil => rfl
    | cons y b => exact absurd ((h y).2 (List.mem_cons_self ..)) (by simp)
  | x :: a, [], _, _, h => absurd ((h x).1 (List.mem_cons_self ..)) (by simp)
  | x :: a, y :: b, ha, hb, h => by
    obtain ⟨a1, a2⟩ := List.pairwise_cons.1 ha
    obtain ⟨b1, b2⟩ := List.pairwise_cons.1 hb
    have e : x = y := by
      rcases List.mem_cons.1 ((h x).1 (List.mem_cons_self ..)) with e | h1
      · exact e
      · rcases List.mem_cons.1 ((h y).2 (List.mem_cons_self ..)) with e | h2
        · exact e.symm
        · have h3 := b1 x h1
          have h4 := a1 y h2
          have := cmp_Mem.anti x y
          omega
    subst e
    rw [sorted_only a b a2 b2 fun z => ?_]
    constructor
    · intro hz
      rcases List.mem_cons.1 ((h z).1 (List.mem_cons_of_mem _ hz)) with e | h1
      · subst e
        have := a1 z hz
        have := cmpMem_self z
        omega
      · exact h1
    · intro hz
      rcases List.mem_cons.1 ((h z).2 (List.mem_cons_of_mem _ hz)) with e | h1
      · subst e
        have := b1 z hz
        have := cmpMem_self z
        omega
      · exact h1
/-- A page's mutations, sorted, are they. -/
theorem sorted_same {l : List Mut} (h : PgOk l) : sort15 (right9 l) = l := by
  have hp : l.Pairwise (fun a b => ¬ cmpM a b = 0) := h.up.imp fun {a b} h9 h0 => by have := mem_cmpM h0; omega
  have hr : ∀ y, y ∈ right9 l ↔ y ∈ l := fun y => by
    unfold right9
    rw [right9_all y l [] (fun m hm => mrtB_yes (h.rt m hm)) (fun _ h => by cases h) hp]
    simp
  refine sorted_only _ _ (sort15_up _ [] List.Pairwise.nil) h.up fun y => ?_
  constructor
  · intro hy
    rcases sort15_mem y _ [] hy with h | h
    · exact (hr y).1 h
    · cases h
  · intro hy
    exact (sort15_all y (right9 l) [] (fun _ h => by cases h) (right9_pair l [] (fun _ h => by cases h) hp List.Pairwise.nil)).2 (.inl ((hr y).2 hy))
end Go.Proofs.YthbhbechemnidaaDoor
