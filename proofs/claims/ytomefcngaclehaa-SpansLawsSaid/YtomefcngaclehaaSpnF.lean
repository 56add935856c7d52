/- Contract of spans.Of. -/
import Derived.Test.YtomefcngaclehaaSpnE
namespace Go.Proofs.Ytomefcngaclehaa
open Go.RowKit Go.Sort
attribute [local go_sem] lt_T lo_T not_ltT not_leT ne_T
theorem max_T (ats : Array TypeId) (ty : TypeId) (a b : ByteArray) : Builtin.max_ ats ty #[.string a, .string b] = pure (.string (maxC cmpT a b)) := by
  have h : (Op.stringOp .geq a b : Sem Value) = pure (.bool (leT b a)) := by rw [← not_ltT, ← lt_T]; rfl
  have e : maxC cmpT a b = if leT b a then a else b := by
    unfold maxC leT
    have := cmp_T.anti a b
    by_cases h : cmpT a b < 0
    · rw [if_pos h, decide_eq_false (by omega)]; rfl
    · rw [if_neg h, decide_eq_true (by omega)]; rfl
  rw [e]
  simp [Builtin.max_, Builtin.max2, h, asBool]
theorem min_T (ats : Array TypeId) (ty : TypeId) (a b : ByteArray) : Builtin.min_ ats ty #[.string a, .string b] = pure (.string (minC cmpT a b)) := by
  have h : (Op.stringOp .leq a b : Sem Value) = pure (.bool (leT a b)) := by rw [← le_T]; rfl
  have e : minC cmpT a b = if leT a b then a else b := by
    unfold minC leT
    have := cmp_T.anti a b
    by_cases h : cmpT b a < 0
    · rw [if_pos h, decide_eq_false (by omega)]; rfl
    · rw [if_neg h, decide_eq_true (by omega)]; rfl
  rw [e]
  simp [Builtin.min_, Builtin.min2, h, asBool]
attribute [local go_sem] max_T min_T

/-- The set of some spans. -/
def ofS (l : List Sp) : List Sp := (sortP (l.filter fun s => !leT s.2 s.1)).foldl (stepS cmpT) []
theorem stepS_len {α : Type} (c : α → α → Int) (O : List (Spn α)) (s : Spn α) : (stepS c O s).length ≤ O.length + 1 := by
  rcases last_cases O with rfl | ⟨D, t, rfl⟩
  · rw [stepS_nil]; simp
  · rw [stepS_last]
    split <;> simp
theorem steps_len {α : Type} (c : α → α → Int) : ∀ (L O : List (Spn α)), (L.foldl (stepS c) O).length ≤ O.length + L.length
  | [], O => by simp
  | s :: L, O => by
    have h1 := steps_len c L (stepS c O s)
    have h2 := stepS_len c O s
    rw [List.foldl_cons, List.length_cons]
    omega
theorem ofS_len (l : List Sp) : (ofS l).length ≤ l.length := by
  unfold ofS
  refine Nat.le_trans (steps_len _ _ _) ?_
  have h1 := (sortP_perm (l.filter fun s => !leT s.2 s.1)).length_eq
  have h2 := List.length_filter_le (fun s : Sp => !leT s.2 s.1) l
  simp only [List.length_nil]
  omega
theorem own_set0 {T : TypeId} {w : World} {b i : Nat} {u : Value} {v : Value} {C : List Sp} {base : Nat} (h : OwnP T w base v C) (hb : b < base) : OwnP T (w.setCell ⟨b, i, none⟩ u) base v C := own_set1 h hb i u

set_option maxRecDepth 100000 in
set_option maxHeartbeats 4000000 in
theorem spans_Of (A : Option Addr) (n c : Nat) (l : List Sp) (w : World) (hr : RdP w A l) (hnl : l.length = n) (hA : A = none → c = 0) (hn : n ≤ 100000) :
    Calls Try.prog 21 #[.slice A n c] w fun e w' => ∃ v, e = .returned (.agg #[v]) ∧ OwnP 41 w' w.heap.size v (ofS l) ∧ Below w.heap.size w w' := by
  obtain ⟨l1, hl1⟩ : ∃ l1, (l.filter fun s => !leT s.2 s.1) = l1 := ⟨_, rfl⟩
  have hl1n : l1.length ≤ n := by rw [← hl1, ← hnl]; exact List.length_filter_le _ _
  obtain ⟨S, hS⟩ : ∃ S, sortP l1 = S := ⟨_, rfl⟩
  have hSn : S.length = l1.length := by rw [← hS]; exact (sortP_perm l1).length_eq
  obtain ⟨R, hR⟩ : ∃ R, ofS l = R := ⟨_, rfl⟩
  have HRR : Hid (S.foldl (stepS cmpT) [] = R) := Lib.hid (by rw [← hR, ofS, hl1, hS])
  rw [hR]
  have HR := Lib.hid hr
  have HNL := Lib.hid hnl
  have HL1 := Lib.hid hl1
  have HS := Lib.hid hS
  have HSN := Lib.hid hSn
  clear hr hnl hl1 hS hSn hR
  go_enter Try.func21, Try.ntmps21
  go_upto_region 1 with fail
  have bA := (Below.refl w.heap.size w).alloc (Nat.le_refl _) (.cells #[.slice none 0 0] 43)
  have BA := Blk.new w 43 #[.slice none 0 0]
  have hRA := HR.out.below bA
  have hsA : w.heap.size + 1 = (w.alloc (.cells #[.slice none 0 0] 43)).heap.size := (World.size_alloc _ _).symm
  generalize w.alloc (.cells #[.slice none 0 0] 43) = w0 at *
  go_wp2_with fail
  refine (spans_Clone A n c l w0 hRA HNL.out hA (by omega)).mono ?_
  rintro e w1 ⟨v1, rfl, o1, b1⟩
  go_wp2_with fail
  refine (spans_DeleteFunc v1 l w1 w0.heap.size w0.heap.size 50 #[] (fun s => leT s.2 s.1) (enters_of Try.func50 (by kernel_rfl) rfl) o1 (Nat.le_refl _) b1.size (by have := HNL.out; omega) (fun W x y _ => of_drops x y W)).mono ?_
  rintro e w2 ⟨v2, rfl, o2, b2⟩
  rw [HL1.out] at o2
  go_wp2_with fail
  refine (spans_Sort v2 l1 w2 w0.heap.size w0.heap.size o2 (Nat.le_refl _) (Nat.le_trans b1.size b2.size) (by omega)).mono ?_
  rintro e w3 ⟨rfl, A3, c3, rfl, hc3, hA3, r3, b3⟩
  rw [HS.out] at r3
  have hB3 : Below w0.heap.size w0 w3 := (b1.trans b2).trans b3
  have hs3 := hB3.size
  obtain ⟨m, hm⟩ : ∃ m, l1.length = m := ⟨_, rfl⟩
  rw [hm] at hc3 hl1n HSN ⊢
  have HR3 := Lib.hid r3
  have BA3 := BA.below hB3 (by omega)
  clear o1 o2 b1 b2 b3 r3 hRA hm
  have B0 := Blk.new w3 43 #[.slice none 0 0]
  have O0 : OwnP 41 (w3.alloc (.cells #[.slice none 0 0] 43)) (w3.heap.size + 1) (.slice none 0 0) [] := OwnP.nil_ _ _ _
  have hB0 := (Below.refl w3.heap.size w3).alloc (Nat.le_refl _) (.cells #[.slice none 0 0] 43)
  go_wp2_with fail
  go_loopw [6, 7, 16] (fun _ _ v16 wr => ∃ (k : Nat) (O : List Sp) (V : Value), v16 = .int .i64 k ∧ k ≤ m ∧ Blk wr w3.heap.size 43 #[V] ∧ OwnP 41 wr (w3.heap.size + 1) V O ∧ (S.take k).foldl (stepS cmpT) [] = O ∧ O.length ≤ k ∧ Below w3.heap.size w3 wr) (fun _ _ v16 _ => m - (intOf v16).toNat)
  case atStart => exact ⟨0, [], _, rfl, Nat.zero_le _, B0, O0, rfl, Nat.le_refl _, hB0⟩
  case round =>
    clear B0 O0 hB0
    obtain ⟨k, O, V, rfl, hkm, B5, hO5, hO, hOk, hB⟩ := hrel
    have HOO := Lib.hid hO
    have HO5 := Lib.hid hO5
    have hsr := B5.lt
    clear hO hO5
    by_cases hk : k < m
    · have hkS : k < S.length := by have := HSN.out; omega
      obtain ⟨b, off, rfl, hbb, hcc⟩ := ((HR3.out.below hB).at_ (by omega))
      obtain ⟨e0, e1⟩ := hcc k hkS
      obtain ⟨x, hx⟩ : ∃ x, S[k]'hkS = x := ⟨_, rfl⟩
      have HSTEP : Hid ((S.take (k + 1)).foldl (stepS cmpT) [] = stepS cmpT O x) := Lib.hid (by rw [List.take_succ_eq_append_getElem hkS, List.foldl_append, HOO.out, hx]; rfl)
      rw [hx] at e0 e1
      obtain ⟨x1, x2⟩ := x
      dsimp only at e0 e1
      clear hcc hx
      have BW := Blk.new wr 41 #[.string x1, .string x2]
      have bW := (Below.refl wr.heap.size wr).alloc (Nat.le_refl _) (.cells #[.string x1, .string x2] 41)
      have B6 := B5.below bW hsr
      have HO6 := Lib.hid (HO5.out.below bW)
      have hBW := hB.trans (bW.mono hB.size)
      have hsW : wr.heap.size < (wr.alloc (.cells #[.string x1, .string x2] 41)).heap.size := by rw [World.size_alloc]; omega
      have c6 := B6.cell 0
      obtain ⟨A5, c5, rfl, hc5, hA5, hg5⟩ := HO5.out.form
      rcases last_cases O with rfl | ⟨D, t, rfl⟩
      · have HNEW : Hid (stepS cmpT [] (x1, x2) = [] ++ [(x1, x2)]) := Lib.hid (stepS_nil _)
        simp only [List.length_nil] at c6 hc5
        go_upto_region 8 with fail
        clear e0 e1
        generalize wr.alloc (.cells #[.string x1, .string x2] 41) = W at *
        go_region
        have bd : Below W.heap.size W W.drew := (Below.refl _ W).drew
        have HO1 := Lib.hid (HO6.out.below bd)
        have B1 := B6.below bd B6.lt
        have BX := BW.below bd BW.lt
        have hBW1 := hBW.trans (bd.mono hBW.size)
        have hsz1 : w3.heap.size + 1 ≤ W.drew.heap.size := by have := B1.lt; omega
        clear c6 bd
        generalize W.drew = W1 at *
        have p0 := BX.cell 0
        have p1 := BX.cell 1
        have p2 := B1.cell 0
        have f2 := B1.frozen 0
        simp only [List.length_nil] at p2
        have hne : some w3.heap.size ≠ (Value.slice A5 0 c5).ownBlock := fun h => by have := (HO1.out.lt _ h.symm).1; omega
        have HGN := Lib.hid (fun (w' : World) (G : W1.grownBy w' (Value.slice A5 0 c5).ownBlock) => And.intro (B1.grown G hne) (Below.grown hBW1 G (by omega) (fun q hq => by have := (HO1.out.lt q hq).1; omega)))
        clear hne
        go_wp2_with (at_builtin; go_must (refine append_span W1 (x1, x2) _ rfl _ rfl _ _ rfl (w3.heap.size + 1) _ ([] : List Sp) rfl HO1.out rfl (by simp only [List.length_nil]; omega) hsz1 ?_); intro v7 w7 O7 G7 _; obtain ⟨z7, hz7⟩ : ∃ z, (([] : List Sp) ++ [(x1, x2)]).length = z := ⟨_, rfl⟩; obtain ⟨A7, c7, hv7, _, _, _⟩ := O7.form; rw [hz7] at hv7; subst hv7; have HG7 := Lib.hid (HGN.out w7 G7); have q7 := HG7.out.1.cell 0; have f7 := HG7.out.1.frozen 0)
        go_roundw
        case rel => exact ⟨k + 1, ([] : List Sp) ++ [(x1, x2)], _, by go_num, hk, HG7.out.1.set_ 0 _, own_set0 O7 (Nat.lt_succ_self _), by rw [HSTEP.out, HNEW.out], by rw [List.length_append]; show (([] : List Sp)).length + 1 ≤ _; omega, below_set HG7.out.2 (Nat.le_refl _) _ _⟩
        case measure => simp [intOf]; omega
      · obtain ⟨t1, t2⟩ := t
        obtain ⟨g, rfl, hg1, hg2⟩ := hg5 (by simp)
        obtain ⟨p, hp⟩ : ∃ p, D.length = p := ⟨_, rfl⟩
        have hO1l : (D ++ [(t1, t2)]).length = p + 1 := by rw [List.length_append, hp]; rfl
        have hlast := (HO6.out.at_ p (by omega)).2
        rw [show (D ++ [(t1, t2)])[p]'(by omega) = (t1, t2) from by rw [List.getElem_append_right (by omega)]; simp] at hlast
        rw [hO1l] at c6 hc5 hOk
        have HOL := Lib.hid hO1l
        have HP := Lib.hid hp
        have hd1 : ((p + 1 : Nat) : Int) - 1 = (p : Int) := by omega
        have hd0 : decide ((p : Int) ≥ 0) = true := decide_eq_true (by omega)
        have hst := stepS_last (c := cmpT) D (t1, t2) (x1, x2)
        have HST := Lib.hid hst
        dsimp only at hlast
        clear hst hO1l hp
        go_upto_region 8 with fail
        clear e0 e1
        generalize wr.alloc (.cells #[.string x1, .string x2] 41) = W at *
        have r0 := cell_regrown (BW.cell 0)
        have r1 := cell_regrown hlast
        have r2 := cell_regrown c6
        refine wp_region_quiet_below (by kernel_rfl) (by kernel_rfl) ?_
        repeat (go_big_quiet_step (fail))
        refine wpQuiet_nil ?_
        rintro w9 ⟨⟨dq, osq⟩, rfl⟩
        have bd := below_regrown W dq osq
        clear r0 r1 r2
        generalize grow (redrawn W dq) osq = W1 at *
        have HO1 : Hid (OwnP 41 W1 (w3.heap.size + 1) (.slice (some ⟨g, 0, none⟩) (p + 1) c5) (D ++ [(t1, t2)])) := Lib.hid (by
          have h := HO6.out.below bd
          rw [HOL.out] at h
          exact h)
        have B1 : Blk W1 w3.heap.size 43 #[.slice (some ⟨g, 0, none⟩) (p + 1) c5] := by
          have h := B6.below bd B6.lt
          rw [HOL.out] at h
          exact h
        have BX := BW.below bd BW.lt
        have hBW1 := hBW.trans (bd.mono hBW.size)
        have hsz1 : w3.heap.size + 1 ≤ W1.heap.size := by have := B1.lt; omega
        clear c6 bd
        have p0 := BX.cell 0
        have p1 := BX.cell 1
        have p2 := B1.cell 0
        have f2 := B1.frozen 0
        cases hq : leT x1 t2 with
        | false =>
          have HNEW : Hid (stepS cmpT (D ++ [(t1, t2)]) (x1, x2) = (D ++ [(t1, t2)]) ++ [(x1, x2)]) := Lib.hid (by rw [HST.out, if_neg (by exact of_decide_eq_false hq)])
          clear hq
          have hne : some w3.heap.size ≠ (Value.slice (some ⟨g, 0, none⟩) (p + 1) c5).ownBlock := fun h => by have := (HO1.out.lt _ h.symm).1; omega
          have HGN := Lib.hid (fun (w' : World) (G : W1.grownBy w' (Value.slice (some ⟨g, 0, none⟩) (p + 1) c5).ownBlock) => And.intro (B1.grown G hne) (Below.grown hBW1 G (by omega) (fun q hq => by have := (HO1.out.lt q hq).1; omega)))
          clear hne
          go_wp2_with (at_builtin; go_must (refine append_span W1 (x1, x2) _ rfl _ rfl _ _ rfl (w3.heap.size + 1) _ (D ++ [(t1, t2)]) rfl HO1.out rfl (by rw [HOL.out]; omega) hsz1 ?_); intro v7 w7 O7 G7 _; obtain ⟨z7, hz7⟩ : ∃ z, ((D ++ [(t1, t2)]) ++ [(x1, x2)]).length = z := ⟨_, rfl⟩; obtain ⟨A7, c7, hv7, _, _, _⟩ := O7.form; rw [hz7] at hv7; subst hv7; have HG7 := Lib.hid (HGN.out w7 G7); have q7 := HG7.out.1.cell 0; have f7 := HG7.out.1.frozen 0)
          go_roundw
          case rel => exact ⟨k + 1, (D ++ [(t1, t2)]) ++ [(x1, x2)], _, by go_num, hk, HG7.out.1.set_ 0 _, own_set0 O7 (Nat.lt_succ_self _), by rw [HSTEP.out, HNEW.out], by rw [List.length_append]; show ((D ++ [(t1, t2)])).length + 1 ≤ _; rw [HOL.out]; omega, below_set HG7.out.2 (Nat.le_refl _) _ _⟩
          case measure => simp [intOf]; omega
        | true =>
          have HNEW : Hid (stepS cmpT (D ++ [(t1, t2)]) (x1, x2) = D ++ [(t1, maxC cmpT t2 x2)]) := Lib.hid (by rw [HST.out, if_pos (by exact of_decide_eq_true hq)])
          clear hq
          go_upto_region 9 with fail
          have bd := (Below.refl W1.heap.size W1).drew
          have h9 := HO1.out.below bd
          have hOr : W1.drew.ownsRow (w3.heap.size + 1) 41 2 (.slice (some ⟨g, 0, none⟩) (p + 1) c5) (p + 1) ((D ++ [(t1, t2)]).flatMap spL) := by
            unfold OwnP at h9
            rw [HOL.out] at h9
            exact h9
          have hl2 := hOr.cellAt (p * 2 + 1) (by omega)
          rw [(sp_get (D ++ [(t1, t2)]) p (by rw [HOL.out]; omega)).2, show (D ++ [(t1, t2)])[p]'(by rw [HOL.out]; omega) = (t1, t2) from by rw [List.getElem_append_right (by rw [HP.out]; omega)]; simp [HP.out]] at hl2
          have fl2 := hOr.frozenAt (p * 2 + 1)
          have s2 := hOr.stored (p * 2 + 1) (.string (maxC cmpT t2 x2))
          rw [show ((D ++ [(t1, t2)]).flatMap spL).set (p * 2 + 1) (.string (maxC cmpT t2 x2)) = (D ++ [(t1, maxC cmpT t2 x2)]).flatMap spL from by rw [← HP.out]; exact sp_set2 D t1 t2 _] at s2
          have HS2 := Lib.hid s2
          have B2 := B1.below bd B1.lt
          have hBW2 := hBW1.trans (bd.mono hBW1.size)
          have hgb : w3.heap.size ≠ g := by omega
          obtain ⟨mx, hmx⟩ : ∃ mx, maxC cmpT t2 x2 = mx := ⟨_, rfl⟩
          have HMX := Lib.hid hmx
          rw [hmx] at HS2 HNEW
          have k0 : ∀ p' : Kept (fun _ => True) W1.drew, p'.v.cell? ⟨w3.heap.size, 0, none⟩ = some (.slice (some ⟨g, 0, none⟩) (p + 1) c5) := fun p' => p'.h.cell trivial (B2.cell 0)
          have k1 : ∀ p' : Kept (fun _ => True) W1.drew, p'.v.cell? ⟨g, p * 2 + 1, none⟩ = some (.string t2) := fun p' => p'.h.cell trivial hl2
          have k2 : ∀ p' : Kept (fun _ => True) W1.drew, p'.v.cell? ⟨wr.heap.size, 1, none⟩ = some (.string x2) := fun p' => p'.h.cell trivial (BX.cell 1)
          clear hOr h9 s2 bd hmx
          refine wp_region_mixTk (M := []) (fun _ => True) 12 [0, 1, 2, 3, 4, 5, 6, 7, 8, 9, 10, 11] (by kernel_rfl) (by kernel_rfl) ?_
          iterate 12 (refine mix_calmDk rfl rfl ?_; go_big_quiet_step (fail); refine wpQuiet_nil ?_)
          rw [HMX.out]
          refine mix_endDk ?_
          clear k0 k1 k2 HO1
          go_wp2_with fail
          go_roundw
          case rel => exact ⟨k + 1, D ++ [(t1, mx)], .slice (some ⟨g, 0, none⟩) (p + 1) c5, by go_num, hk, B2.far hgb _, (by unfold OwnP; rw [show (D ++ [(t1, mx)]).length = p + 1 from by rw [List.length_append, HP.out]; rfl]; exact HS2.out.1), by rw [HSTEP.out, HNEW.out], by rw [show (D ++ [(t1, mx)]).length = p + 1 from by rw [List.length_append, HP.out]; rfl]; omega, below_set hBW2 (by omega) _ _⟩
          case measure => simp [intOf]; omega
    · have hkm' : k = m := by omega
      subst hkm'
      have HF : Hid (O = R) := Lib.hid (by rw [← HOO.out, ← HRR.out, List.take_of_length_le (by have := HSN.out; omega)])
      have BA4 := BA3.below hB (by omega)
      obtain ⟨A5, c5, rfl, hc5, hA5, hg5⟩ := HO5.out.form
      have q0 := B5.cell 0
      have f0 := BA4.frozen 0
      have q1 := BA4.cell 0
      go_wp2_with fail
      refine bodyPost_ret (v := .agg #[.slice A5 O.length c5]) (results_cell_row (P := Try.prog) Try.results21 _ _ w.heap.size 43 #[.slice A5 O.length c5] (0, 0) _ rfl (BA4.set_ 0 _) Try.underlying43 rfl (by kernel_rfl)) rfl ?_
      refine ⟨_, rfl, ?_, ?_⟩
      · rw [← HF.out]
        exact (own_set0 HO5.out (by omega)).base_le (by omega)
      · exact below_set ((bA.trans (hB3.mono (by omega))).trans (hB.mono (by omega))) (Nat.le_refl _) _ _
end Go.Proofs.Ytomefcngaclehaa
