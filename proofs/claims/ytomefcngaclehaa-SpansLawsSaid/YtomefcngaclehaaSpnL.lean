/- Contract of spans.Less. -/
import Derived.Test.YtomefcngaclehaaSpnK
namespace Go.Proofs.Ytomefcngaclehaa
open Go.RowKit Go.Sort
attribute [local go_sem] lt_T lo_T not_ltT not_leT max_T min_T

theorem stepL_if (L : List Sp) (x1 x2 y1 y2 : ByteArray) : stepL cmpT (L, (x1, x2)) (y1, y2) = if (leT y2 x1 || leT x2 y1) = true then (L, (x1, x2)) else (L ++ [(x1, y1)], (maxC cmpT x1 y2, x2)) := by
  unfold stepL leT
  simp only [Bool.or_eq_true, decide_eq_true_eq]
  have := cmp_T.anti y1 x2
  simp only [show (0 ≤ cmpT y1 x2) ↔ (cmpT x2 y1 ≤ 0) from ⟨fun _ => by omega, fun _ => by omega⟩]

set_option maxRecDepth 100000 in
set_option maxHeartbeats 4000000 in
theorem spans_Less (A1 A2 : Option Addr) (n1 n2 c1 c2 : Nat) (l1 l2 : List Sp) (w : World) (h1 : RdP w A1 l1) (h2 : RdP w A2 l2) (e1 : l1.length = n1) (e2 : l2.length = n2) (hm : n1 ≤ 100) (hm2 : n2 ≤ 100) :
    Calls Try.prog 34 #[.agg #[.slice A1 n1 c1], .agg #[.slice A2 n2 c2]] w (SetE w (ofS (lessL cmpT l1 l2))) := by
  obtain ⟨M, hM⟩ : ∃ M, lessL cmpT l1 l2 = M := ⟨_, rfl⟩
  have HMM := Lib.hid hM
  rw [hM]
  clear hM
  obtain ⟨R, hR⟩ : ∃ R, ofS M = R := ⟨_, rfl⟩
  rw [hR]
  have HR := Lib.hid hR
  clear hR
  obtain ⟨Wa, hWa⟩ : ∃ Wa, w.alloc (.cells #[.slice A1 n1 c1] 43) = Wa := ⟨_, rfl⟩
  obtain ⟨Wb, hWb⟩ : ∃ Wb, Wa.alloc (.cells #[.slice A2 n2 c2] 43) = Wb := ⟨_, rfl⟩
  obtain ⟨W, hW⟩ : ∃ W, Wb.alloc (.cells #[.slice none 0 0] 43) = W := ⟨_, rfl⟩
  have sa : Wa.heap.size = w.heap.size + 1 := by rw [← hWa, World.size_alloc]
  have sb : Wb.heap.size = w.heap.size + 2 := by rw [← hWb, World.size_alloc, sa]
  have B0a : Blk Wa w.heap.size 43 #[.slice A1 n1 c1] := by rw [← hWa]; exact Blk.new _ _ _
  have B1b : Blk Wb (w.heap.size + 1) 43 #[.slice A2 n2 c2] := by rw [← hWb, ← sa]; exact Blk.new _ _ _
  have B2 : Blk W (w.heap.size + 2) 43 #[.slice none 0 0] := by rw [← hW, ← sb]; exact Blk.new _ _ _
  have ba : Below w.heap.size w Wa := by rw [← hWa]; exact (Below.refl _ _).alloc (Nat.le_refl _) _
  have bb : Below Wa.heap.size Wa Wb := by rw [← hWb]; exact (Below.refl _ _).alloc (Nat.le_refl _) _
  have bc : Below Wb.heap.size Wb W := by rw [← hW]; exact (Below.refl _ _).alloc (Nat.le_refl _) _
  have B1 := B1b.below bc B1b.lt
  have B0 := (B0a.below bb B0a.lt).below bc (by omega)
  have bA : Below w.heap.size w W := (ba.trans (bb.mono ba.size)).trans (bc.mono (by omega))
  have HWW := Lib.hid (And.intro hWa (And.intro hWb hW))
  have H1 := Lib.hid (h1.below bA)
  have H2 := Lib.hid (h2.below bA)
  have E1 := Lib.hid e1
  have E2 := Lib.hid e2
  clear h1 h2 e1 e2 sa sb ba bb bc B0a B1b hWa hWb hW
  go_enter Try.func34, Try.ntmps34
  go_upto_region 1 with fail
  rw [HWW.out.1, HWW.out.2.1, HWW.out.2.2]
  clear HWW
  have O0 : OwnP 41 W W.heap.size (.slice none 0 0) [] := OwnP.nil_ _ _ _
  have q0 := B0.cell 0
  go_wp2_with fail
  clear q0
  go_loopw [5, 7, 9, 13] (fun v5 _ _ v13 wr => ∃ (i : Nat) (L : List Sp), v13 = .int .i64 i ∧ i ≤ n1 ∧ (l1.take i).foldl (lessO cmpT l2) [] = L ∧ L.length ≤ i * 101 ∧ OwnP 41 wr W.heap.size v5 L ∧ Below W.heap.size W wr) (fun _ _ _ v13 _ => n1 - (intOf v13).toNat)
  case atStart => exact ⟨0, [], rfl, Nat.zero_le _, rfl, Nat.zero_le _, O0, Below.refl _ _⟩
  case round =>
    clear O0
    obtain ⟨i, L, rfl, hi, hL, hLl, hO, hB⟩ := hrel
    obtain ⟨wo, hwo⟩ : ∃ wo, wo = wr := ⟨_, rfl⟩
    subst hwo
    have HL := Lib.hid hL
    have HO := Lib.hid hO
    clear hL hO
    by_cases hi1 : i < n1
    · have hiL : i < l1.length := by have := E1.out; omega
      obtain ⟨b1, o1, rfl, hb1, hc1⟩ := (H1.out.below hB).at_ (by omega)
      obtain ⟨p1, p2⟩ := hc1 i hiL
      obtain ⟨⟨x1, x2⟩, hx⟩ : ∃ x, l1[i]'hiL = x := ⟨_, rfl⟩
      rw [hx] at p1 p2
      simp only at p1 p2
      have HST : Hid ((l1.take (i + 1)).foldl (lessO cmpT l2) [] = lessO cmpT l2 L (x1, x2)) := Lib.hid (by rw [List.take_succ_eq_append_getElem hiL, List.foldl_append, HL.out, hx]; rfl)
      have BX := Blk.new wo 41 #[.string x1, .string x2]
      have bW := (Below.refl wo.heap.size wo).alloc (Nat.le_refl _) (.cells #[.string x1, .string x2] 41)
      have q1 := ((B1.below hB B1.lt).below bW (B1.below hB B1.lt).lt).cell 0
      have HO1 := Lib.hid (HO.out.below bW)
      have hB1 := hB.trans (bW.mono hB.size)
      have hsz : (wo.alloc (.cells #[.string x1, .string x2] 41)).heap.size = wo.heap.size + 1 := World.size_alloc _ _
      have hne : ∀ q, u5.ownBlock = some q → q ≠ wo.heap.size := fun q hq => by have := (HO.out.lt _ hq).2; omega
      have hWo : W.heap.size ≤ wo.heap.size := hB.size
      clear hc1 hx HL
      go_upto_region 6 with fail
      clear p1 p2 q1
      obtain ⟨W1, hW1⟩ : ∃ W1, wo.alloc (.cells #[.string x1, .string x2] 41) = W1 := ⟨_, rfl⟩
      rw [hW1] at BX HO1 hB1 hsz ⊢
      clear hW1 bW
      go_loopw [5, 9, 20] (fun v5 _ v20 ws => ∃ (k : Nat) (K : List Sp) (X : ByteArray), v20 = .int .i64 k ∧ k ≤ n2 ∧ Blk ws wo.heap.size 41 #[.string X, .string x2] ∧ (l2.take k).foldl (stepL cmpT) (L, (x1, x2)) = (K, (X, x2)) ∧ K.length ≤ L.length + k ∧ OwnP 41 ws W.heap.size v5 K ∧ (∀ q, v5.ownBlock = some q → q ≠ wo.heap.size) ∧ Below W.heap.size W ws) (fun _ _ v20 _ => n2 - (intOf v20).toNat)
      case atStart => exact ⟨0, L, x1, rfl, Nat.zero_le _, BX, rfl, Nat.le_refl _, HO1.out, hne, hB1⟩
      case round =>
        clear BX HO1 hB1 hsz
        obtain ⟨k, K, X, rfl, hk, BX, hK, hKl, hOK, hne2, hBs⟩ := hrel
        have HK := Lib.hid hK
        have HO := Lib.hid hOK
        have HNE := Lib.hid hne2
        clear hK hOK hne2
        by_cases hk1 : k < n2
        · have hkL : k < l2.length := by have := E2.out; omega
          obtain ⟨b2, o2, rfl, hb2, hc2⟩ := (H2.out.below hBs).at_ (by omega)
          obtain ⟨r1, r2⟩ := hc2 k hkL
          obtain ⟨⟨y1, y2⟩, hy⟩ : ∃ y, l2[k]'hkL = y := ⟨_, rfl⟩
          rw [hy] at r1 r2
          simp only at r1 r2
          have HS2 : Hid ((l2.take (k + 1)).foldl (stepL cmpT) (L, (x1, x2)) = if (leT y2 X || leT x2 y1) = true then (K, (X, x2)) else (K ++ [(X, y1)], (maxC cmpT X y2, x2))) := Lib.hid (by rw [List.take_succ_eq_append_getElem hkL, List.foldl_append, HK.out, hy, ← stepL_if]; rfl)
          have BY := Blk.new wr 41 #[.string y1, .string y2]
          have bS := (Below.refl wr.heap.size wr).alloc (Nat.le_refl _) (.cells #[.string y1, .string y2] 41)
          have BX2 := BX.below bS BX.lt
          have HO2 := Lib.hid (HO.out.below bS)
          have hB2 := hBs.trans (bS.mono hBs.size)
          have hltx := BX.lt
          clear hc2 hy HK
          have t0 := BX2.cell 0
          have t1 := BX2.cell 1
          have t2 := BY.cell 0
          have t3 := BY.cell 1
          have ft := BX2.frozen 0
          cases hq1 : leT y2 X with
          | true =>
            have HS3 : Hid ((l2.take (k + 1)).foldl (stepL cmpT) (L, (x1, x2)) = (K, (X, x2))) := Lib.hid (by rw [HS2.out, hq1]; rfl)
            go_wp2_with fail
            go_roundw
            case rel => exact ⟨k + 1, K, X, by go_num, hk1, BX2, HS3.out, by omega, HO2.out, HNE.out, hB2⟩
            case measure => simp [intOf]; omega
          | false =>
            cases hq2 : leT x2 y1 with
            | true =>
              have HS3 : Hid ((l2.take (k + 1)).foldl (stepL cmpT) (L, (x1, x2)) = (K, (X, x2))) := Lib.hid (by rw [HS2.out, hq1, hq2]; rfl)
              go_wp2_with fail
              go_roundw
              case rel => exact ⟨k + 1, K, X, by go_num, hk1, BX2, HS3.out, by omega, HO2.out, HNE.out, hB2⟩
              case measure => simp [intOf]; omega
            | false =>
              have HS3 : Hid ((l2.take (k + 1)).foldl (stepL cmpT) (L, (x1, x2)) = (K ++ [(X, y1)], (maxC cmpT X y2, x2))) := Lib.hid (by rw [HS2.out, hq1, hq2]; rfl)
              have hbx : some wo.heap.size ≠ u5.ownBlock := fun h => HNE.out _ h.symm rfl
              have hby : some wr.heap.size ≠ u5.ownBlock := fun h => by have := (HO.out.lt _ h.symm).2; omega
              obtain ⟨W2, hW2⟩ : ∃ W2, wr.alloc (.cells #[.string y1, .string y2] 41) = W2 := ⟨_, rfl⟩
              have hsz2 : W2.heap.size = wr.heap.size + 1 := by rw [← hW2, World.size_alloc]
              have HSZ := Lib.hid hsz2
              clear hsz2
              have HGN : Hid (∀ (w' : World) (G : W2.grownBy w' u5.ownBlock), Blk w' wo.heap.size 41 #[.string X, .string x2] ∧ Blk w' wr.heap.size 41 #[.string y1, .string y2] ∧ Below W.heap.size W w') := Lib.hid (fun w' G => by
                rw [hW2] at BX2 BY hB2 HO2
                exact ⟨BX2.grown G hbx, BY.grown G hby, Below.grown hB2 G hB2.size (fun q hq => (HO2.out.lt q hq).1)⟩)
              have HO3 : Hid (OwnP 41 W2 W.heap.size u5 K) := Lib.hid (by rw [← hW2]; exact HO2.out)
              have hsW2 : W.heap.size ≤ W2.heap.size := by rw [← hW2]; exact hB2.size
              clear hbx hby BX2 BY hB2 HO2
              have HW2 := Lib.hid hW2
              clear hW2
              go_upto_region 9 with fail
              rw [HW2.out]
              clear t0 t1 t2 t3 ft HW2
              have s0 : W2.cell? ⟨wo.heap.size, 0, none⟩ = some (.string X) := (HGN.out W2 (World.grownBy.refl _ _)).1.cell 0
              have s1 : W2.cell? ⟨wr.heap.size, 0, none⟩ = some (.string y1) := (HGN.out W2 (World.grownBy.refl _ _)).2.1.cell 0
              go_wp2_with (at_builtin; go_must (refine append_span W2 (X, y1) _ rfl _ rfl _ _ rfl W.heap.size _ K rfl HO3.out rfl (by omega) hsW2 ?_); intro v7 w7 O7 G7 LI7; have HG7 := Lib.hid (HGN.out w7 G7); have HO7 := Lib.hid O7; have t0 := HG7.out.1.cell 0; have t1 := HG7.out.2.1.cell 1; have ft := HG7.out.1.frozen 0; have hlie := LI7)
              have hne7 : ∀ q, v7.ownBlock = some q → q ≠ wo.heap.size := fun q hq => by
                rcases hlie with h | ⟨g, h, hg⟩
                · exact HNE.out q (h ▸ hq)
                · rw [h] at hq
                  injection hq with hq
                  have := HSZ.out
                  omega
              go_roundw
              case rel => exact ⟨k + 1, K ++ [(X, y1)], maxC cmpT X y2, by go_num, hk1, HG7.out.1.set_ 0 _, HS3.out, by rw [List.length_append]; show K.length + 1 ≤ _; omega, World.ownsRow.kept HO7.out (only_set1 w7 wo.heap.size 0 _) (by
                rcases ho : v7.ownBlock with _ | q
                · exact .inl rfl
                · exact .inr (fun h => by injection h with h; exact hne7 q ho h)), hne7, below_set HG7.out.2.2 hWo _ _⟩
              case measure => simp [intOf]; omega
        · have hkn : k = n2 := by omega
          subst hkn
          have HF : Hid (lessO cmpT l2 L (x1, x2) = K ++ [(X, x2)]) := Lib.hid (by
            have h := HK.out
            rw [List.take_of_length_le (by have := E2.out; omega)] at h
            unfold lessO
            rw [h])
          have t0 := BX.cell 0
          have t1 := BX.cell 1
          have hsB := hBs.size
          have HGN := Lib.hid (fun (w' : World) (G : wr.grownBy w' u5.ownBlock) => Below.grown hBs G hsB (fun q hq => (HO.out.lt q hq).1))
          go_wp2_with (at_builtin; go_must (refine append_span wr (X, x2) _ rfl _ rfl _ _ rfl W.heap.size _ K rfl HO.out rfl (by omega) hsB ?_); intro v7 w7 O7 G7 _; have HG7 := Lib.hid (HGN.out w7 G7); have HO7 := Lib.hid O7)
          go_roundw
          case rel => exact ⟨i + 1, K ++ [(X, x2)], by go_num, hi1, by rw [HST.out, HF.out], by rw [List.length_append]; show K.length + 1 ≤ _; omega, HO7.out, HG7.out⟩
          case measure => simp [intOf]; omega
    · have hin : i = n1 := by omega
      subst hin
      have HM : Hid (L = M) := Lib.hid (by
        rw [← HMM.out, ← HL.out, List.take_of_length_le (by have := E1.out; omega)]
        rfl)
      clear hi1
      obtain ⟨N, hN⟩ : ∃ N, L.length = N := ⟨_, rfl⟩
      have hNn : N ≤ 100000 := by omega
      obtain ⟨A, c, hv, hc, hA, hr⟩ := HO.out.reads
      rw [hN] at hv
      subst hv
      have HR1 := Lib.hid hr
      have HN := Lib.hid hN
      clear hr hN hc
      go_wp2_with fail
      refine (spans_Of A N c L wo HR1.out HN.out hA hNn).mono ?_
      rintro e w2 ⟨v2, rfl, o2, b2⟩
      rw [HM.out, HR.out] at o2
      have b2' := hB.trans (b2.mono hB.size)
      have B3 := B2.below b2' B2.lt
      obtain ⟨A5, c5, rfl, -, -, -⟩ := o2.form
      have q2 := B3.cell 0
      have f2 := B3.frozen 0
      have hs2 := hB.size
      have hW2 := B2.lt
      go_wp2_with fail
      refine bodyPost_ret (v := .agg #[.slice A5 R.length c5]) (results_cell_row (P := Try.prog) Try.results34 _ _ (w.heap.size + 2) 43 #[.slice A5 R.length c5] (0, 0) _ rfl (B3.set_ 0 _) Try.underlying43 rfl (by kernel_rfl)) rfl ?_
      exact ⟨_, rfl, (own_set0 o2 (by omega)).base_le (by omega), below_set (bA.trans (b2'.mono (by omega))) (by omega) _ _⟩
end Go.Proofs.Ytomefcngaclehaa
