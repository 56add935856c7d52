/- Contract of spans.Meet. -/
import Derived.Test.YtomefcngaclehaaSpnI
namespace Go.Proofs.Ytomefcngaclehaa
open Go.RowKit Go.Sort
attribute [local go_sem] lt_T lo_T not_ltT not_leT max_T min_T

theorem meetL_len (c : ByteArray → ByteArray → Int) : ∀ (n : Nat) (a b : List Sp), a.length + b.length ≤ n → (meetL c a b).length ≤ a.length + b.length
  | _, [], b, _ => by rw [meetL_nil]; simp
  | _, a, [], _ => by rw [meetL_nil']; simp
  | 0, x :: a, y :: b, h => by simp at h
  | n + 1, x :: a, y :: b, h => by
    have h1 := meetL_len c n a (y :: b) (by simp only [List.length_cons] at *; omega)
    have h2 := meetL_len c n (x :: a) b (by simp only [List.length_cons] at *; omega)
    rw [meetL_cons, List.length_cons]
    simp only [List.length_cons] at *
    split <;> omega
theorem blk_newS {w : World} {g : Nat} {T : TypeId} {cs : Array Value} (h : w.heap.size = g) : Blk ((w.alloc (.cells cs T)).drew) g T cs := by
  subst h
  exact (Blk.new w T cs).drew

set_option maxRecDepth 100000 in
set_option maxHeartbeats 4000000 in
theorem spans_Meet (A1 A2 : Option Addr) (n1 n2 c1 c2 : Nat) (l1 l2 : List Sp) (w : World) (h1 : RdP w A1 l1) (h2 : RdP w A2 l2) (e1 : l1.length = n1) (e2 : l2.length = n2) (hm : n1 ≤ 40000) (hm2 : n2 ≤ 40000) :
    Calls Try.prog 33 #[.agg #[.slice A1 n1 c1], .agg #[.slice A2 n2 c2]] w (SetE w (ofS (meetL cmpT l1 l2))) := by
  obtain ⟨M, hM⟩ : ∃ M, meetL cmpT l1 l2 = M := ⟨_, rfl⟩
  have HMM := Lib.hid hM
  rw [hM]
  clear hM
  obtain ⟨R, hR⟩ : ∃ R, ofS M = R := ⟨_, rfl⟩
  rw [hR]
  have HR := Lib.hid hR
  clear hR
  obtain ⟨Wa, hWa⟩ : ∃ Wa, w.alloc (.cells #[.slice A1 n1 c1] 43) = Wa := ⟨_, rfl⟩
  obtain ⟨Wb, hWb⟩ : ∃ Wb, Wa.alloc (.cells #[.slice A2 n2 c2] 43) = Wb := ⟨_, rfl⟩
  obtain ⟨W, hW⟩ : ∃ W, Wb.alloc (.cells #[.slice none 0 0] 43) = W := ⟨_, rfl⟩
  have sa : Wa.heap.size = w.heap.size + 1 := by rw [← hWa, World.size_alloc]
  have sb : Wb.heap.size = w.heap.size + 2 := by rw [← hWb, World.size_alloc, sa]
  have B0a : Blk Wa w.heap.size 43 #[.slice A1 n1 c1] := by rw [← hWa]; exact Blk.new _ _ _
  have B1b : Blk Wb (w.heap.size + 1) 43 #[.slice A2 n2 c2] := by rw [← hWb, ← sa]; exact Blk.new _ _ _
  have B2 : Blk W (w.heap.size + 2) 43 #[.slice none 0 0] := by rw [← hW, ← sb]; exact Blk.new _ _ _
  have ba : Below w.heap.size w Wa := by rw [← hWa]; exact (Below.refl _ _).alloc (Nat.le_refl _) _
  have bb : Below Wa.heap.size Wa Wb := by rw [← hWb]; exact (Below.refl _ _).alloc (Nat.le_refl _) _
  have bc : Below Wb.heap.size Wb W := by rw [← hW]; exact (Below.refl _ _).alloc (Nat.le_refl _) _
  have B1 := B1b.below bc B1b.lt
  have B0 := (B0a.below bb B0a.lt).below bc (by omega)
  have bA : Below w.heap.size w W := (ba.trans (bb.mono ba.size)).trans (bc.mono (by omega))
  have HWW := Lib.hid (And.intro hWa (And.intro hWb hW))
  have H1 := Lib.hid (h1.below bA)
  have H2 := Lib.hid (h2.below bA)
  have E1 := Lib.hid e1
  have E2 := Lib.hid e2
  clear h1 h2 e1 e2 sa sb ba bb bc B0a B1b hWa hWb hW
  go_enter Try.func33, Try.ntmps33
  go_upto_region 1 with fail
  rw [HWW.out.1, HWW.out.2.1, HWW.out.2.2]
  clear HWW
  have O0 : OwnP 41 W W.heap.size (.slice none 0 0) [] := OwnP.nil_ _ _ _
  go_wp2_with fail
  go_loopw [5, 6, 7, 8, 9] (fun v5 v6 v7 _ _ wr => ∃ (i k : Nat) (L : List Sp), v6 = .int .i64 i ∧ v7 = .int .i64 k ∧ i ≤ n1 ∧ k ≤ n2 ∧ L ++ meetL cmpT (l1.drop i) (l2.drop k) = M ∧ L.length ≤ i + k ∧ OwnP 41 wr W.heap.size v5 L ∧ Below W.heap.size W wr) (fun _ v6 v7 _ _ _ => (n1 - (intOf v6).toNat) + (n2 - (intOf v7).toNat))
  case atStart => exact ⟨0, 0, [], rfl, rfl, Nat.zero_le _, Nat.zero_le _, by rw [List.drop_zero, List.drop_zero, HMM.out]; rfl, Nat.le_refl _, O0, Below.refl _ _⟩
  case round =>
    clear O0
    obtain ⟨i, k, L, rfl, rfl, hi, hk, hL, hLl, hO, hB⟩ := hrel
    have HL := Lib.hid hL
    have HO := Lib.hid hO
    clear hL hO
    have q0 := (B0.below hB B0.lt).cell 0
    have q1 := (B1.below hB B1.lt).cell 0
    by_cases hik : i < n1 ∧ k < n2
    · obtain ⟨hi1, hk1⟩ := hik
      have hiL : i < l1.length := by have := E1.out; omega
      have hkL : k < l2.length := by have := E2.out; omega
      obtain ⟨b1, o1, rfl, hb1, hc1⟩ := (H1.out.below hB).at_ (by omega)
      obtain ⟨b2, o2, rfl, hb2, hc2⟩ := (H2.out.below hB).at_ (by omega)
      obtain ⟨p1, p2⟩ := hc1 i hiL
      obtain ⟨r1, r2⟩ := hc2 k hkL
      obtain ⟨⟨x1, x2⟩, hx⟩ : ∃ x, l1[i]'hiL = x := ⟨_, rfl⟩
      obtain ⟨⟨y1, y2⟩, hy⟩ : ∃ y, l2[k]'hkL = y := ⟨_, rfl⟩
      have HST : Hid ((L ++ [(maxC cmpT x1 y1, minC cmpT x2 y2)]) ++ (if ltT x2 y2 then meetL cmpT (l1.drop (i + 1)) (l2.drop k) else meetL cmpT (l1.drop i) (l2.drop (k + 1))) = M) := Lib.hid (by
        rw [← HL.out]
        conv => rhs; rw [List.drop_eq_getElem_cons hiL, List.drop_eq_getElem_cons hkL, hx, hy, meetL_cons, ← hx, ← hy, ← List.drop_eq_getElem_cons hiL, ← List.drop_eq_getElem_cons hkL, hx, hy]
        unfold ltT
        by_cases h : cmpT x2 y2 < 0
        · rw [decide_eq_true h, if_pos rfl, if_pos h]; simp
        · rw [decide_eq_false h, if_neg (by decide), if_neg h]; simp)
      rw [hx] at p1 p2
      rw [hy] at r1 r2
      simp only at p1 p2 r1 r2
      clear hc1 hc2 hx hy HL
      go_upto_region 4 with fail
      go_cut [8, 9] from 10 to 54 (fun s8 s9 wx => ∃ gm gn : Nat, s8 = .pointer (some ⟨gm, 0, none⟩) ∧ s9 = .pointer (some ⟨gn, 0, none⟩) ∧ Blk wx gm 41 #[.string x1, .string x2] ∧ Blk wx gn 41 #[.string y1, .string y2] ∧ wr.heap.size ≤ gm ∧ wr.heap.size ≤ gn ∧ Below wr.heap.size wr wx)
      case first =>
        have hw1 : b1 ≠ wr.heap.size := by omega
        have hw2 : b2 ≠ wr.heap.size := by omega
        have hw3 : b1 ≠ wr.heap.size + 1 := by omega
        have hw4 : b2 ≠ wr.heap.size + 1 := by omega
        have hlt0 := (B0.below hB B0.lt).lt
        have hlt1 := (B1.below hB B1.lt).lt
        have hw5 : w.heap.size ≠ wr.heap.size := by omega
        have hw6 : w.heap.size ≠ wr.heap.size + 1 := by omega
        have hw7 : w.heap.size + 1 ≠ wr.heap.size := by omega
        have hw8 : w.heap.size + 1 ≠ wr.heap.size + 1 := by omega
        go_region
        · go_wp2_with fail
          go_meet
          case rel => exact ⟨wr.heap.size, wr.heap.size + 1, rfl, rfl, ((Blk.new wr 41 #[.string x1, .string x2]).alloc _).drew, blk_newS (by simp) , Nat.le_refl _, Nat.le_succ _, ((((Below.refl _ wr).alloc (Nat.le_refl _) _).alloc (by simp) _).drew)⟩
        · go_wp2_with fail
          go_meet
          case rel => exact ⟨wr.heap.size + 1, wr.heap.size, rfl, rfl, blk_newS (by simp), ((Blk.new wr 41 #[.string y1, .string y2]).alloc _).drew, Nat.le_succ _, Nat.le_refl _, ((((Below.refl _ wr).alloc (Nat.le_refl _) _).alloc (by simp) _).drew)⟩
      case rest =>
      obtain ⟨gm, gn, rfl, rfl, bm, bn, hgm, hgn, b9⟩ := hcut
      have hB9 := hB.trans (b9.mono hB.size)
      have HO9 := Lib.hid (HO.out.below b9)
      obtain ⟨W9, hW9⟩ : ∃ W9, W9 = wc := ⟨_, rfl⟩
      subst hW9
      have m0 : W9.cell? ⟨gm, 0, none⟩ = some (.string x1) := bm.cell 0
      have m1 : W9.cell? ⟨gm, 1, none⟩ = some (.string x2) := bm.cell 1
      have n0 : W9.cell? ⟨gn, 0, none⟩ = some (.string y1) := bn.cell 0
      have n1' : W9.cell? ⟨gn, 1, none⟩ = some (.string y2) := bn.cell 1
      have hGN := Lib.hid (fun (w' : World) (G : W9.grownBy w' u5.ownBlock) => Below.grown hB9 G hB9.size (fun q hq => (HO9.out.lt q hq).1))
      have hn1 : some gm ≠ u5.ownBlock := fun h => by have := (HO.out.lt _ h.symm).2; omega
      have hn2 : some gn ≠ u5.ownBlock := fun h => by have := (HO.out.lt _ h.symm).2; omega
      have bmn := Lib.hid (fun (w' : World) (G : W9.grownBy w' u5.ownBlock) => And.intro (bm.grown G hn1) (bn.grown G hn2))
      clear b9 q0 q1 p1 p2 r1 r2 hn1 hn2
      cases hq : ltT x2 y2 with
      | true =>
        have HST2 : Hid ((L ++ [(maxC cmpT x1 y1, minC cmpT x2 y2)]) ++ meetL cmpT (l1.drop (i + 1)) (l2.drop k) = M) := Lib.hid (by
          have h := HST.out
          rw [hq] at h
          exact h)
        go_wp2_with (at_builtin; go_must (refine append_span W9 (maxC cmpT x1 y1, minC cmpT x2 y2) _ rfl _ rfl _ _ rfl W.heap.size _ L rfl HO9.out rfl (by omega) hB9.size ?_); intro v7 w7 O7 G7 _; have HG7 := Lib.hid (hGN.out w7 G7); have HO7 := Lib.hid O7; have t0 := (bmn.out w7 G7).1.cell 1; have t1 := (bmn.out w7 G7).2.cell 1)
        go_roundw
        case rel => exact ⟨i + 1, k, L ++ [(maxC cmpT x1 y1, minC cmpT x2 y2)], by go_num, rfl, hi1, hk, HST2.out, by rw [List.length_append]; show L.length + 1 ≤ _; omega, HO7.out, HG7.out⟩
        case measure => simp [intOf]; omega
      | false =>
        have HST2 : Hid ((L ++ [(maxC cmpT x1 y1, minC cmpT x2 y2)]) ++ meetL cmpT (l1.drop i) (l2.drop (k + 1)) = M) := Lib.hid (by
          have h := HST.out
          rw [hq] at h
          exact h)
        go_wp2_with (at_builtin; go_must (refine append_span W9 (maxC cmpT x1 y1, minC cmpT x2 y2) _ rfl _ rfl _ _ rfl W.heap.size _ L rfl HO9.out rfl (by omega) hB9.size ?_); intro v7 w7 O7 G7 _; have HG7 := Lib.hid (hGN.out w7 G7); have HO7 := Lib.hid O7; have t0 := (bmn.out w7 G7).1.cell 1; have t1 := (bmn.out w7 G7).2.cell 1)
        go_roundw
        case rel => exact ⟨i, k + 1, L ++ [(maxC cmpT x1 y1, minC cmpT x2 y2)], rfl, by go_num, hi, hk1, HST2.out, by rw [List.length_append]; show L.length + 1 ≤ _; omega, HO7.out, HG7.out⟩
        case measure => simp [intOf]; omega
    · have HM : Hid (L = M) := Lib.hid (by
        rw [← HL.out]
        have h : l1.drop i = [] ∨ l2.drop k = [] := by
          by_cases h1 : i < n1
          · exact .inr (List.drop_eq_nil_of_le (by have := E2.out; omega))
          · exact .inl (List.drop_eq_nil_of_le (by have := E1.out; omega))
        rcases h with h | h
        · rw [h, meetL_nil, List.append_nil]
        · rw [h, meetL_nil', List.append_nil])
      by_cases hi1 : i < n1
      · have hk1 : ¬ k < n2 := fun h => hik ⟨hi1, h⟩
        clear hik
        obtain ⟨N, hN⟩ : ∃ N, L.length = N := ⟨_, rfl⟩
        have hNn : N ≤ 100000 := by omega
        obtain ⟨A, c, hv, hc, hA, hr⟩ := HO.out.reads
        rw [hN] at hv
        subst hv
        have HR1 := Lib.hid hr
        have HN := Lib.hid hN
        clear hr hN hc
        go_wp2_with fail
        refine (spans_Of A N c L wr HR1.out HN.out hA hNn).mono ?_
        rintro e w2 ⟨v2, rfl, o2, b2⟩
        rw [HM.out, HR.out] at o2
        have b2' := hB.trans (b2.mono hB.size)
        have B3 := B2.below b2' B2.lt
        obtain ⟨A5, c5, rfl, -, -, -⟩ := o2.form
        have q2 := B3.cell 0
        have f2 := B3.frozen 0
        have hs2 := hB.size
        have hW2 := B2.lt
        go_wp2_with fail
        refine bodyPost_ret (v := .agg #[.slice A5 R.length c5]) (results_cell_row (P := Try.prog) Try.results33 _ _ (w.heap.size + 2) 43 #[.slice A5 R.length c5] (0, 0) _ rfl (B3.set_ 0 _) Try.underlying43 rfl (by kernel_rfl)) rfl ?_
        exact ⟨_, rfl, (own_set0 o2 (by omega)).base_le (by omega), below_set (bA.trans (b2'.mono (by omega))) (by omega) _ _⟩
      · clear hik
        obtain ⟨N, hN⟩ : ∃ N, L.length = N := ⟨_, rfl⟩
        have hNn : N ≤ 100000 := by omega
        obtain ⟨A, c, hv, hc, hA, hr⟩ := HO.out.reads
        rw [hN] at hv
        subst hv
        have HR1 := Lib.hid hr
        have HN := Lib.hid hN
        clear hr hN hc
        go_wp2_with fail
        refine (spans_Of A N c L wr HR1.out HN.out hA hNn).mono ?_
        rintro e w2 ⟨v2, rfl, o2, b2⟩
        rw [HM.out, HR.out] at o2
        have b2' := hB.trans (b2.mono hB.size)
        have B3 := B2.below b2' B2.lt
        obtain ⟨A5, c5, rfl, -, -, -⟩ := o2.form
        have q2 := B3.cell 0
        have f2 := B3.frozen 0
        have hs2 := hB.size
        have hW2 := B2.lt
        go_wp2_with fail
        refine bodyPost_ret (v := .agg #[.slice A5 R.length c5]) (results_cell_row (P := Try.prog) Try.results33 _ _ (w.heap.size + 2) 43 #[.slice A5 R.length c5] (0, 0) _ rfl (B3.set_ 0 _) Try.underlying43 rfl (by kernel_rfl)) rfl ?_
        exact ⟨_, rfl, (own_set0 o2 (by omega)).base_le (by omega), below_set (bA.trans (b2'.mono (by omega))) (by omega) _ _⟩
end Go.Proofs.Ytomefcngaclehaa
