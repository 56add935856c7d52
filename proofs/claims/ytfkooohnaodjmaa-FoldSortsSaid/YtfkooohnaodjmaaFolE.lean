/- Contracts of the reference's chunk, of fold.Natural and of the reference's Natural. -/
import Derived.Test.YtfkooohnaodjmaaFolD
import Derived.Test.YtfkooohnaodjmaaMixA
import Derived.Lib.SliceRun
namespace Go.Proofs.Ytfkooohnaodjmaa
open Go.RowKit Go.Sort
attribute [local go_sem] Lib.cell?_alloc_some

theorem chP_flat : ∀ (R : List Nat) (out : List Chk), (R.foldl addC out).flatMap (·.1) = out.flatMap (·.1) ++ R
  | [], out => by simp
  | r :: R, out => by
    rw [List.foldl_cons, chP_flat R]
    have e : (addC out r).flatMap (·.1) = out.flatMap (·.1) ++ [r] := by
      unfold addC
      cases hg : out.getLast? with
      | none => simp
      | some c =>
        obtain ⟨D, hD⟩ := List.getLast?_eq_some_iff.1 hg
        split
        · rename_i h; cases h
        · rename_i d h
          injection h with h
          subst h
          split
          · rw [hD]; simp
          · simp
    rw [e]
    simp
theorem chunk_size (s : ByteArray) : ∀ c ∈ chunksB s, c.1.size ≤ 4 * s.size := by
  intro c hc
  obtain ⟨d, hd, rfl⟩ := List.mem_map.1 hc
  have h1 := chP_flat (rest s 0) []
  have h2 : d.1.length ≤ (rest s 0).length := by
    have h3 : List.Sublist d.1 ((chP (rest s 0)).flatMap (·.1)) := by
      obtain ⟨A, B, h4⟩ := List.append_of_mem hd
      rw [h4, List.flatMap_append, List.flatMap_cons]
      exact (List.sublist_append_left _ _).trans (List.sublist_append_right _ _)
    have := h3.length_le
    unfold chP at this
    rw [h1] at this
    simpa using this
  have h4 := rest_length s 0
  have h5 := encs_lenF d.1
  show (strE d.1).size ≤ _
  rw [← bl_length, bl_strE]
  omega

set_option maxRecDepth 100000 in
set_option maxHeartbeats 2000000 in
theorem ref39_chunk (p q : Ch) (hp : p.1.size ≤ 100000000) (hq : q.1.size ≤ 100000000) (dp : p.2 = true → DgB p.1) (dq : q.2 = true → DgB q.1) (w : World) :
    Calls Try.prog 41 #[.agg #[.string p.1, .bool p.2], .agg #[.string q.1, .bool q.2]] w fun e w' => e = .returned (.int .i64 (cmpC p q)) ∧ Below w.heap.size w w' := by
  obtain ⟨t1, b1⟩ := p
  obtain ⟨t2, b2⟩ := q
  simp only at hp hq dp dq ⊢
  have BK1 := (Blk.new w 81 #[.string t1, .bool b1]).alloc (.cells #[.string t2, .bool b2] 81)
  have BK2 := Blk.new (w.alloc (.cells #[.string t1, .bool b1] 81)) 81 #[.string t2, .bool b2]
  have hB : Below w.heap.size w ((w.alloc (.cells #[.string t1, .bool b1] 81)).alloc (.cells #[.string t2, .bool b2] 81)) := ((Below.refl _ _).alloc (Nat.le_refl _) _).alloc (by simp) _
  simp only [World.size_alloc] at BK2
  obtain ⟨R, hR⟩ : ∃ R, cmpC (t1, b1) (t2, b2) = R := ⟨_, rfl⟩
  have HR := Lib.hid hR
  rw [hR]
  clear hR
  have HD := Lib.hid (And.intro dp dq)
  clear dp dq
  go_enter Try.func41, Try.ntmps41
  go_upto_region 1 with fail
  generalize (w.alloc (.cells #[.string t1, .bool b1] 81)).alloc (.cells #[.string t2, .bool b2] 81) = W at *
  have c0 : W.cell? ⟨w.heap.size, 0, none⟩ = some (.string t1) := BK1.cell 0
  have c1 : W.cell? ⟨w.heap.size, 1, none⟩ = some (.bool b1) := BK1.cell 1
  have d0 : W.cell? ⟨w.heap.size + 1, 0, none⟩ = some (.string t2) := BK2.cell 0
  have d1 : W.cell? ⟨w.heap.size + 1, 1, none⟩ = some (.bool b2) := BK2.cell 1
  cases b1 with
  | true =>
    cases b2 with
    | true =>
      have HN : Hid (numR t1 t2 = R) := Lib.hid (by rw [← HR.out, numR_eq (HD.out.1 rfl) (HD.out.2 rfl)]; rfl)
      go_wp2_with fail
      refine (ref39_number t1 t2 (by omega) (by omega) W).mono ?_
      rintro e w2 ⟨rfl, b2⟩
      rw [HN.out]
      go_wp2_with fail
      go_ret
      exact ⟨rfl, hB.trans (b2.mono hB.size)⟩
    | false =>
      have HN : Hid ((-1 : Int) = R) := Lib.hid (by rw [← HR.out]; rfl)
      go_wp2_with fail
      go_ret
      exact ⟨by rw [← HN.out]; rfl, hB⟩
  | false =>
    cases b2 with
    | true =>
      have HN : Hid ((1 : Int) = R) := Lib.hid (by rw [← HR.out]; rfl)
      go_wp2_with fail
      go_ret
      exact ⟨by rw [← HN.out]; rfl, hB⟩
    | false =>
      have HN : Hid (cmpT (foldB t1) (foldB t2) = R) := Lib.hid (by rw [← HR.out]; rfl)
      obtain ⟨x, hx⟩ : ∃ x, foldB t1 = x := ⟨_, rfl⟩
      obtain ⟨y, hy⟩ : ∃ y, foldB t2 = y := ⟨_, rfl⟩
      rw [hx, hy] at HN
      have k1 : ∀ d os, Calls Try.prog 61 #[.string t1] (grow (redrawn W d) os) fun e w'' => e = .returned (.string x) ∧ ∃ p : Regrown, w'' = grow (redrawn W p.d) p.os := fun d os => Calls.regrown_of (by rw [← hx]; exact ref39_Fold t1 hp _)
      have k2 : ∀ d os, Calls Try.prog 61 #[.string t2] (grow (redrawn W d) os) fun e w'' => e = .returned (.string y) ∧ ∃ p : Regrown, w'' = grow (redrawn W p.d) p.os := fun d os => Calls.regrown_of (by rw [← hy]; exact ref39_Fold t2 hq _)
      have k3 : ∀ d os, Calls Try.prog 42 #[.string x, .string y] (grow (redrawn W d) os) fun e w'' => e = .returned (.int .i64 R) ∧ ∃ p : Regrown, w'' = grow (redrawn W p.d) p.os := fun d os => Calls.regrown_of (by rw [← HN.out]; exact (ref39_text x y _).mono fun e w' ⟨he, hw⟩ => ⟨he, hw ▸ Below.refl _ _⟩)
      clear hx hy
      go_upto_region 7 with fail
      have q0 := cell_regrown c0
      have s0 := cell_regrown d0
      clear c0 c1 d0 d1
      refine wp_region_quiet_below (by kernel_rfl) (by kernel_rfl) ?_
      repeat (go_big_quiet_step (first | with_reducible exact k1 _ _ | with_reducible exact k2 _ _ | with_reducible exact k3 _ _))
      refine wpQuiet_nil ?_
      rintro w1 ⟨⟨dq, osq⟩, rfl⟩
      have b9 := below_regrown W dq osq
      go_wp2_with fail
      go_ret
      exact ⟨rfl, hB.trans (b9.mono hB.size)⟩

theorem natC_at {a b : ByteArray} {C1 C2 : List Ch} (h1 : chunksB a = C1) (h2 : chunksB b = C2) (k : Nat) (hk1 : k < C1.length) (hk2 : k < C2.length) (hrel : cmpL cmpC (C1.drop k) (C2.drop k) = cmpL cmpC C1 C2) :
    (cmpC C1[k] C2[k] = 0 → cmpL cmpC (C1.drop (k + 1)) (C2.drop (k + 1)) = cmpL cmpC C1 C2) ∧ (cmpC C1[k] C2[k] ≠ 0 → natC a b = cmpC C1[k] C2[k]) := by
  have h := cmpL_step cmpC C1 C2 k hk1 hk2
  rw [hrel] at h
  refine ⟨fun h0 => by rw [if_pos h0] at h; exact h.symm, fun h0 => ?_⟩
  rw [if_neg h0] at h
  show (if cmpL cmpC (chunksB a) (chunksB b) = 0 then _ else cmpL cmpC (chunksB a) (chunksB b)) = _
  rw [h1, h2, h, if_neg h0]
theorem natC_end {a b : ByteArray} {C1 C2 : List Ch} (h1 : chunksB a = C1) (h2 : chunksB b = C2) (k : Nat) (hk : k = min C1.length C2.length) (hrel : cmpL cmpC (C1.drop k) (C2.drop k) = cmpL cmpC C1 C2) :
    natC a b = orL [cmpI C1.length C2.length, cmpT a b] := by
  have h := cmpL_end cmpC C1 C2 k (by omega) (by omega) (by omega)
  unfold natC
  rw [h1, h2, ← hrel, h]
theorem run_allocF (ρ : Operand → Value) (w : World) (o : Oper) (ho : o.op = .alloc 75) : (execOp ρ o).run Try.prog w = .ok (.value (.pointer (some ⟨w.heap.size, 0, none⟩))) (w.alloc (.cells #[.string ⟨#[]⟩, .bool false] 75)) := by
  unfold execOp
  simp only [ho]
  simp [go_sem, Instr.alloc]
theorem freeA_F {P : Program} {ops : Array Oper} {X : List Nat} {z : Array Value} {t : TypeId} (h : ∀ x ∈ X, ∃ o, ops[x]? = some o ∧ o.guard = none ∧ o.op = .alloc t) (hz : ∀ (ρ : Operand → Value) (w : World) (o : Oper), o.op = .alloc t → (execOp ρ o).run P w = .ok (.value (.pointer (some ⟨w.heap.size, 0, none⟩))) (w.alloc (.cells z t))) : FreeA P ops X (fun _ => z) (fun _ => t) :=
  fun x hx => by
    obtain ⟨o, h1, h2, h3⟩ := h x hx
    exact ⟨o, h1, h2, fun ρ w => hz ρ w o h3⟩

theorem blk_newF {w : World} {g : Nat} {T : TypeId} {cs : Array Value} (h : w.heap.size = g) : Blk ((w.alloc (.cells cs T)).drew) g T cs := by
  subst h
  exact (Blk.new w T cs).drew

set_option maxRecDepth 100000 in
set_option maxHeartbeats 4000000 in
theorem fold_Natural (a b : ByteArray) (ha : a.size ≤ 10000000) (hb : b.size ≤ 10000000) (w : World) : Calls Try.prog 14 #[.string a, .string b] w fun e w' => e = .returned (.int .i64 (natC a b)) ∧ Below w.heap.size w w' := by
  have C1 := Lib.hid (fold_Chunks a (by omega) w)
  have C2 := fun w1 => fold_Chunks b (by omega) w1
  have hs1 := chunk_size a
  have hs2 := chunk_size b
  have hl1 := chunksB_len a
  have hl2 := chunksB_len b
  obtain ⟨N, hN⟩ : ∃ N, natC a b = N := ⟨_, rfl⟩
  obtain ⟨X, hX⟩ : ∃ X, chunksB a = X := ⟨_, rfl⟩
  obtain ⟨Y, hY⟩ : ∃ Y, chunksB b = Y := ⟨_, rfl⟩
  rw [hX] at C1 hs1 hl1
  rw [hY] at C2 hs2 hl2
  have HS1 := Lib.hid hs1
  have HS2 := Lib.hid hs2
  have C2 := Lib.hid C2
  have HAT := Lib.hid (fun k hk1 hk2 hr => natC_at hX hY k hk1 hk2 hr)
  have HEND := Lib.hid (fun k hk hr => natC_end hX hY k hk hr)
  rw [hN] at HAT HEND ⊢
  clear hX hY hN hs1 hs2
  go_enter Try.func14, Try.ntmps14
  go_wp2_with fail
  refine C1.out.mono ?_
  clear C1
  rintro e w1 ⟨v1, rfl, O1, b1⟩
  go_wp2_with fail
  refine (C2.out w1).mono ?_
  clear C2
  rintro e W ⟨v2, rfl, O2, b2⟩
  have O1' := O1.below b2
  have hB := b1.trans (b2.mono b1.size)
  obtain ⟨A1, c1, rfl, -, -, hg1⟩ := O1'.form
  obtain ⟨A2, c2, rfl, -, -, hg2⟩ := O2.form
  have HO1 := Lib.hid O1'
  have HO2 := Lib.hid O2
  obtain ⟨n1, hn1⟩ : ∃ n, X.length = n := ⟨_, rfl⟩
  obtain ⟨n2, hn2⟩ : ∃ n, Y.length = n := ⟨_, rfl⟩
  obtain ⟨m, hm⟩ : ∃ m, min n1 n2 = m := ⟨_, rfl⟩
  have hm1 : m ≤ n1 := by omega
  have hm2 : m ≤ n2 := by omega
  have hmm : min (n1 : Int) (n2 : Int) = m := by omega
  have HN1 := Lib.hid hn1
  have HN2 := Lib.hid hn2
  have HM := Lib.hid hm
  rw [hn1] at hg1 hl1 ⊢
  rw [hn2] at hg2 hl2 ⊢
  clear O1 O2 O1' b1 b2 hn1 hn2 hm
  go_wp2_with fail
  go_loopw [7, 8, 9, 10, 11, 21] (fun _ _ _ _ _ v21 wr => ∃ k : Nat, v21 = .int .i64 k ∧ k ≤ m ∧ cmpL cmpC (X.drop k) (Y.drop k) = cmpL cmpC X Y ∧ Below W.heap.size W wr) (fun _ _ _ _ _ v21 _ => m - (RowKit.intOf v21).toNat)
  case atStart => exact ⟨0, rfl, Nat.zero_le _, by rw [List.drop_zero, List.drop_zero], Below.refl _ _⟩
  case round =>
    obtain ⟨k, rfl, hk, hrel, hBW⟩ := hrel
    have HREL := Lib.hid hrel
    clear hrel
    by_cases hkm : k < m
    · have hk1 : k < X.length := by have := HN1.out; omega
      have hk2 : k < Y.length := by have := HN2.out; omega
      obtain ⟨g1, rfl, hg11, hg12⟩ := hg1 (by omega)
      obtain ⟨g2, rfl, hg21, hg22⟩ := hg2 (by omega)
      have hat := HAT.out k hk1 hk2 HREL.out
      obtain ⟨p1, p2⟩ := own_at HO1.out k hk1
      obtain ⟨r1, r2⟩ := own_at HO2.out k hk2
      have hz1 := HS1.out _ (List.getElem_mem hk1)
      have hz2 := HS2.out _ (List.getElem_mem hk2)
      obtain ⟨⟨t1, u1⟩, hx⟩ : ∃ x, X[k]'hk1 = x := ⟨_, rfl⟩
      obtain ⟨⟨t2, u2⟩, hy⟩ : ∃ y, Y[k]'hk2 = y := ⟨_, rfl⟩
      rw [hx] at hat p1 p2 hz1
      rw [hy] at hat r1 r2 hz2
      simp only at p1 p2 r1 r2 hz1 hz2
      have HX := Lib.hid hat
      have hBw := hB.trans (hBW.mono hB.size)
      have e1 := (hBW.cell (p := ⟨g1, k * 2, none⟩) hg12).trans p1
      have e2 := (hBW.cell (p := ⟨g1, k * 2 + 1, none⟩) hg12).trans p2
      have e3 := (hBW.cell (p := ⟨g2, k * 2, none⟩) hg22).trans r1
      have e4 := (hBW.cell (p := ⟨g2, k * 2 + 1, none⟩) hg22).trans r2
      have hg12' := Nat.lt_of_lt_of_le hg12 hBW.size
      have hg22' := Nat.lt_of_lt_of_le hg22 hBW.size
      have HBW := Lib.hid hBW
      clear hat hx hy p1 p2 r1 r2 hBW
      go_upto_region 5 with fail
      go_cut [8, 9] from 22 to 65 (fun s8 s9 wx => ∃ gm gn : Nat, s8 = .pointer (some ⟨gm, 0, none⟩) ∧ s9 = .pointer (some ⟨gn, 0, none⟩) ∧ Blk wx gm 75 #[.string t1, .bool u1] ∧ Blk wx gn 75 #[.string t2, .bool u2] ∧ Below wr.heap.size wr wx)
      case first =>
        have hk1n : k < n1 := by omega
        have hk2n : k < n2 := by omega
        have hw1 : g1 ≠ wr.heap.size := by have := hBw.size; omega
        have hw2 : g2 ≠ wr.heap.size := by have := hBw.size; omega
        have hw3 : g1 ≠ wr.heap.size + 1 := by omega
        have hw4 : g2 ≠ wr.heap.size + 1 := by omega
        go_region
        · go_wp2_with fail
          go_meet
          case rel => exact ⟨wr.heap.size, wr.heap.size + 1, rfl, rfl, ((Blk.new wr 75 #[.string t1, .bool u1]).alloc _).drew, blk_newF (by simp) , ((((Below.refl _ wr).alloc (Nat.le_refl _) _).alloc (by simp) _).drew)⟩
        · go_wp2_with fail
          go_meet
          case rel => exact ⟨wr.heap.size + 1, wr.heap.size, rfl, rfl, blk_newF (by simp), ((Blk.new wr 75 #[.string t2, .bool u2]).alloc _).drew, ((((Below.refl _ wr).alloc (Nat.le_refl _) _).alloc (by simp) _).drew)⟩
      case rest =>
      obtain ⟨gm, gn, rfl, rfl, bm, bn, b9⟩ := hcut
      have hBW9 := HBW.out.trans (b9.mono HBW.out.size)
      have hBw9 := hB.trans (hBW9.mono hB.size)
      obtain ⟨W9, hW9⟩ : ∃ W9, W9 = wc := ⟨_, rfl⟩
      subst hW9
      have m0 : W9.cell? ⟨gm, 0, none⟩ = some (.string t1) := bm.cell 0
      have m1 : W9.cell? ⟨gm, 1, none⟩ = some (.bool u1) := bm.cell 1
      have n0 : W9.cell? ⟨gn, 0, none⟩ = some (.string t2) := bn.cell 0
      have n1' : W9.cell? ⟨gn, 1, none⟩ = some (.bool u2) := bn.cell 1
      clear b9 bm bn e1 e2 e3 e4
      have hsb := hBw9.size
      have hkm1 : k + 1 ≤ m := hkm
      cases u1 with
      | true =>
        cases u2 with
        | true =>
          obtain ⟨cz, hcz⟩ : ∃ cz, numC t1 t2 = cz := ⟨_, rfl⟩
          have hat := HX.out
          rw [show cmpC (t1, true) (t2, true) = cz by rw [← hcz]; rfl] at hat
          have HAT2 := Lib.hid hat
          clear HX hat
          go_wp2_with fail
          refine (fold_number t1 t2 (by omega) (by omega) W9).mono ?_
          rintro e w10 ⟨rfl, b10⟩
          rw [hcz]
          have hBW10 := hBW9.trans (b10.mono hBW9.size)
          clear hcz m0 m1 n0 n1' b10 hBW9
          by_cases h0 : cz = 0
          · have hd : (cz != 0) = false := by simp [h0]
            have HR := Lib.hid (HAT2.out.1 h0)
            clear h0 HAT2
            go_wp2_with fail
            go_roundw
            case rel => exact ⟨k + 1, by go_num, hkm1, HR.out, hBW10⟩
            case measure => simp [RowKit.intOf]; omega
          · have hd : (cz != 0) = true := by simp [h0]
            have HR := Lib.hid (HAT2.out.2 h0)
            clear h0 HAT2
            go_wp2_with fail
            go_ret
            exact ⟨ret_iF HR.out.symm, hB.trans (hBW10.mono hB.size)⟩
        | false =>
          have HR : Hid (N = -1) := Lib.hid (HX.out.2 (by show ((-1 : Int) ≠ 0); decide))
          go_wp2_with fail
          go_ret
          exact ⟨ret_iF HR.out.symm, hBw9⟩
      | false =>
        cases u2 with
        | true =>
          have HR : Hid (N = 1) := Lib.hid (HX.out.2 (by show ((1 : Int) ≠ 0); decide))
          go_wp2_with fail
          go_ret
          exact ⟨ret_iF HR.out.symm, hBw9⟩
        | false =>
          obtain ⟨cz, hcz⟩ : ∃ cz, cmpT (foldB t1) (foldB t2) = cz := ⟨_, rfl⟩
          have hat := HX.out
          rw [show cmpC (t1, false) (t2, false) = cz by rw [← hcz]; rfl] at hat
          have HAT2 := Lib.hid hat
          obtain ⟨x, hx⟩ : ∃ x, foldB t1 = x := ⟨_, rfl⟩
          obtain ⟨y, hy⟩ : ∃ y, foldB t2 = y := ⟨_, rfl⟩
          rw [hx, hy] at hcz
          have k1 : ∀ d os, Calls Try.prog 37 #[.string t1] (grow (redrawn W9 d) os) fun e w'' => e = .returned (.string x) ∧ ∃ p : Regrown, w'' = grow (redrawn W9 p.d) p.os := fun d os => Calls.regrown_of (by rw [← hx]; exact fold_Fold t1 (by omega) _)
          have k2 : ∀ d os, Calls Try.prog 37 #[.string t2] (grow (redrawn W9 d) os) fun e w'' => e = .returned (.string y) ∧ ∃ p : Regrown, w'' = grow (redrawn W9 p.d) p.os := fun d os => Calls.regrown_of (by rw [← hy]; exact fold_Fold t2 (by omega) _)
          have k3 : ∀ d os, Calls Try.prog 36 #[.string x, .string y] (grow (redrawn W9 d) os) fun e w'' => e = .returned (.int .i64 cz) ∧ ∃ p : Regrown, w'' = grow (redrawn W9 p.d) p.os := fun d os => Calls.regrown_of (by rw [← hcz]; exact (cmp_CompareS x y _).mono fun e w' ⟨he, hw⟩ => ⟨he, hw ▸ Below.refl _ _⟩)
          clear HX hat hx hy hcz
          go_upto_region 6 with fail
          have q0 := cell_regrown m0
          have s0 := cell_regrown n0
          clear m0 m1 n0 n1'
          refine wp_region_quiet_below (by kernel_rfl) (by kernel_rfl) ?_
          repeat (go_big_quiet_step (first | with_reducible exact k1 _ _ | with_reducible exact k2 _ _ | with_reducible exact k3 _ _))
          refine wpQuiet_nil ?_
          rintro w10 ⟨⟨dq, osq⟩, rfl⟩
          have b10 := below_regrown W9 dq osq
          have hBW10 := hBW9.trans (b10.mono hBW9.size)
          clear b10 hBW9 k1 k2 k3 q0 s0
          by_cases h0 : cz = 0
          · have hd : (cz != 0) = false := by simp [h0]
            have HR := Lib.hid (HAT2.out.1 h0)
            clear h0 HAT2
            go_wp2_with fail
            go_roundw
            case rel => exact ⟨k + 1, by go_num, hkm1, HR.out, hBW10⟩
            case measure => simp [RowKit.intOf]; omega
          · have hd : (cz != 0) = true := by simp [h0]
            have HR := Lib.hid (HAT2.out.2 h0)
            clear h0 HAT2
            go_wp2_with fail
            go_ret
            exact ⟨ret_iF HR.out.symm, hB.trans (hBW10.mono hB.size)⟩
    · have hkm' : k = m := by omega
      subst hkm'
      have hend := HEND.out k (by rw [HN1.out, HN2.out, HM.out]) HREL.out
      rw [HN1.out, HN2.out] at hend
      have hBw := hB.trans (hBW.mono hB.size)
      obtain ⟨x, hx⟩ : ∃ x, cmpI (n1 : Int) (n2 : Int) = x := ⟨_, rfl⟩
      obtain ⟨y, hy⟩ : ∃ y, cmpT a b = y := ⟨_, rfl⟩
      rw [hx, hy] at hend
      have HE := Lib.hid hend
      have HX := Lib.hid hx
      have HY := Lib.hid hy
      clear hx hy hend hmm
      go_wp2_with fail
      refine (cmp_Compare (n1 : Int) n2 wr).mono ?_
      rintro e w3 ⟨rfl, rfl⟩
      rw [HX.out]
      go_wp2_with fail
      refine (cmp_CompareS a b wr).mono ?_
      rintro e w3 ⟨rfl, rfl⟩
      rw [HY.out]
      go_wp2_with fail
      have BO := Blk.new wr 3 #[.int .i64 x, .int .i64 y]
      refine (cmp_Or (wr.alloc (.cells #[.int .i64 x, .int .i64 y] 3)) wr.heap.size [x, y] 2 rfl (fun k z hz => ?_) (by omega)).mono ?_
      · match k, hz with
        | 0, hz => simp at hz; subst hz; exact BO.cell 0
        | 1, hz => simp at hz; subst hz; exact BO.cell 1
      rintro e w3 ⟨rfl, rfl⟩
      have hB3 := hBw.alloc hBw.size (.cells #[.int .i64 x, .int .i64 y] 3)
      rw [← HE.out]
      go_wp2_with fail
      go_ret
      exact ⟨rfl, hB3⟩
end Go.Proofs.Ytfkooohnaodjmaa
