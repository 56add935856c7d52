/- Contract of the reference's Both. -/
import Derived.Test.YtomefcngaclehaaSpnS
namespace Go.Proofs.Ytomefcngaclehaa
open Go.RowKit Go.Sort

abbrev e0 : ByteArray := ⟨#[]⟩
def SwOk (P : ByteArray → Bool) (B : List ByteArray) (R T : List Sp) (o : Bool) (i : Nat) : Prop :=
  (o = false ∧ T ++ sweepR e0 P none (B.drop i) = R) ∨ (o = true ∧ ∃ D f, T = D ++ [(f, e0)] ∧ D ++ sweepR e0 P (some f) (B.drop i) = R)
section
variable {P : ByteArray → Bool} {B : List ByteArray} {R T : List Sp} {i : Nat} {b : ByteArray}
theorem SwOk.opens (h : SwOk P B R T false i) (hi : i < B.length) (hb : B[i] = b) (hp : P b = true) : SwOk P B R (T ++ [(b, e0)]) true (i + 1) := by
  rcases h with ⟨_, h⟩ | ⟨h, _⟩
  · rw [List.drop_eq_getElem_cons hi, hb] at h
    unfold sweepR at h
    rw [if_pos hp] at h
    exact .inr ⟨rfl, T, b, rfl, h⟩
  · cases h
theorem SwOk.out (h : SwOk P B R T false i) (hi : i < B.length) (hb : B[i] = b) (hp : P b = false) : SwOk P B R T false (i + 1) := by
  rcases h with ⟨_, h⟩ | ⟨h, _⟩
  · rw [List.drop_eq_getElem_cons hi, hb] at h
    unfold sweepR at h
    rw [if_neg (by rw [hp]; decide)] at h
    exact .inl ⟨rfl, h⟩
  · cases h
theorem SwOk.stays (h : SwOk P B R T true i) (hi : i < B.length) (hb : B[i] = b) (hp : P b = true) : SwOk P B R T true (i + 1) := by
  rcases h with ⟨h, _⟩ | ⟨_, D, f, h1, h⟩
  · cases h
  · rw [List.drop_eq_getElem_cons hi, hb] at h
    unfold sweepR at h
    rw [if_pos hp] at h
    exact .inr ⟨rfl, D, f, h1, h⟩
theorem SwOk.shuts (h : SwOk P B R T true i) (hi : i < B.length) (hb : B[i] = b) (hp : P b = false) : ∃ D f, T = D ++ [(f, e0)] ∧ SwOk P B R (D ++ [(f, b)]) false (i + 1) := by
  rcases h with ⟨h, _⟩ | ⟨_, D, f, h1, h⟩
  · cases h
  · rw [List.drop_eq_getElem_cons hi, hb] at h
    unfold sweepR at h
    rw [if_neg (by rw [hp]; decide)] at h
    exact ⟨D, f, h1, .inl ⟨rfl, by rw [List.append_assoc]; exact h⟩⟩
theorem SwOk.end_ {o : Bool} (h : SwOk P B R T o i) (hi : B.length ≤ i) : T = R := by
  rcases h with ⟨_, h⟩ | ⟨_, D, f, h1, h⟩
  · rw [List.drop_eq_nil_of_le hi] at h
    unfold sweepR at h
    rw [← h, List.append_nil]
  · rw [List.drop_eq_nil_of_le hi] at h
    unfold sweepR at h
    rw [h1, ← h]
end

set_option maxRecDepth 100000 in
set_option maxHeartbeats 8000000 in
theorem ref46_Both (A1 A2 : Option Addr) (n1 n2 c1 c2 : Nat) (l1 l2 : List Sp) (kd : Int) (w : World) (hkd : kd = 0 ∨ kd = 1 ∨ kd = 2) (h1 : RdP w A1 l1) (h2 : RdP w A2 l2) (e1 : l1.length = n1) (e2 : l2.length = n2) (hm : n1 ≤ 1000) (hm2 : n2 ≤ 1000) :
    Calls Try.prog 22 #[.slice A1 n1 c1, .slice A2 n2 c2, .int .i64 kd] w fun e w' => ∃ v, e = .returned v ∧ OwnP 45 w' w.heap.size v (bothL cmpT e0 l1 l2 kd) ∧ Below w.heap.size w w' := by
  have hbl := bnd_len cmpT l2 (bnd cmpT l1 [])
  have hbl1 := bnd_len cmpT l1 []
  have HBC := Lib.hid (ref46_bounds A1 A2 n1 n2 c1 c2 l1 l2 w h1 h2 e1 e2 hm hm2)
  obtain ⟨B, hB0⟩ : ∃ B, bnd cmpT l2 (bnd cmpT l1 []) = B := ⟨_, rfl⟩
  obtain ⟨P, hP⟩ : ∃ P : ByteArray → Bool, (fun k => kindF kd (inL cmpT l1 k) (inL cmpT l2 k)) = P := ⟨_, rfl⟩
  obtain ⟨R, hR⟩ : ∃ R, bothL cmpT e0 l1 l2 kd = R := ⟨_, rfl⟩
  rw [hR]
  have HSW : Hid (sweepR e0 P none B = R) := Lib.hid (by rw [← hR, bothL, hB0, ← hP])
  have HPP : Hid (∀ b, kindF kd (inL cmpT l1 b) (inL cmpT l2 b) = P b) := Lib.hid (fun b => by rw [← hP])
  rw [hB0] at HBC hbl
  obtain ⟨m, hm0⟩ : ∃ m, B.length = m := ⟨_, rfl⟩
  have hmn : m ≤ 4000 := by
    simp only [List.length_nil] at hbl1
    rw [e1] at hbl1
    rw [hm0, e2] at hbl
    omega
  have HM := Lib.hid hm0
  have H1 := Lib.hid h1
  have H2 := Lib.hid h2
  have E1 := Lib.hid e1
  have E2 := Lib.hid e2
  clear hbl hbl1 hB0 hP hR hm0 h1 h2 e1 e2
  go_enter Try.func22, Try.ntmps22
  go_wp2_with fail
  refine HBC.out.mono ?_
  rintro e W ⟨v8, rfl, o8, b8⟩
  obtain ⟨A8, c8, hv, -, -, hrd⟩ := o8.reads
  rw [HM.out] at hv hrd
  subst hv
  have HRB := Lib.hid hrd
  have H1W := Lib.hid (H1.out.below b8)
  have H2W := Lib.hid (H2.out.below b8)
  have O0 : OwnP 45 W W.heap.size (.slice none 0 0) [] := OwnP.nil_ _ _ _
  have hsW := b8.size
  clear hrd o8 HBC
  go_wp2_with fail
  go_loopw [7, 9, 10, 11, 12, 13] (fun v7 v9 v10 _ _ _ wr => ∃ (i : Nat) (o : Bool) (T : List Sp), v10 = .int .i64 i ∧ v9 = .bool o ∧ i ≤ m ∧ T.length ≤ i ∧ SwOk P B R T o i ∧ OwnP 45 wr W.heap.size v7 T ∧ Below W.heap.size W wr) (fun _ _ v10 _ _ _ _ => m - (intOf v10).toNat)
  case atStart => exact ⟨0, false, [], rfl, rfl, Nat.zero_le _, Nat.le_refl _, .inl ⟨rfl, by rw [List.drop_zero]; exact HSW.out⟩, O0, Below.refl _ _⟩
  case round =>
    clear O0
    obtain ⟨i, o, T, rfl, rfl, hi, hTl, hT, hO, hB⟩ := hrel
    have HT := Lib.hid hT
    have HO := Lib.hid hO
    have hsB := hB.size
    clear hT hO
    by_cases hin : i < m
    · have hiB : i < B.length := by have := HM.out; omega
      obtain ⟨b, off, rfl, hb, hall⟩ := Reads.form HRB.out (by omega)
      obtain ⟨s, hs⟩ : ∃ s, B[i]'hiB = s := ⟨_, rfl⟩
      have ce := hb_cell hB (hall i (.string s) (by rw [List.getElem?_map, List.getElem?_eq_getElem hiB, hs]; rfl))
      have hbr : b < wr.heap.size := Nat.lt_of_lt_of_le hb hsB
      obtain ⟨x, hx⟩ : ∃ x, inL cmpT l1 s = x := ⟨_, rfl⟩
      obtain ⟨y, hy⟩ : ∃ y, inL cmpT l2 s = y := ⟨_, rfl⟩
      have hps := HPP.out s
      rw [hx, hy] at hps
      have HS := Lib.hid hs
      have HPS := Lib.hid hps
      have bd : Below wr.heap.size wr wr.drew := (Below.refl _ _).drew
      have C1 := Lib.hid (ref46_Has A1 n1 c1 l1 s wr.drew ((H1W.out.below hB).below bd) E1.out (by omega))
      have C2 := Lib.hid (ref46_Has A2 n2 c2 l2 s wr.drew ((H2W.out.below hB).below bd) E2.out (by omega))
      rw [hx] at C1
      rw [hy] at C2
      clear hall hs hx hy hps
      go_upto_region 7 with fail
      have q0 : ∀ p : Kept (fun _ => True) wr.drew, p.v.cell? ⟨b, off + i, none⟩ = some (.string s) := fun p => p.h.cell trivial ce
      refine wp_region_mixDk (M := []) (fun _ => True) [0, 1, 2, 3, 4, 6, 7, 8, 9, 10, 5, 11, 12, 13] (by kernel_rfl) (by kernel_rfl) ?_
      iterate 10 (refine mix_calmDk rfl rfl ?_; go_big_quiet_step (fail); refine wpQuiet_nil ?_)
      refine mix_loudDk rfl (by kernel_rfl) rfl ?_
      intro K1 hK1
      have HK := Lib.hid hK1
      clear hK1 
      go_wp2_with fail
      refine (C1.out).mono ?_
      rintro x w5 ⟨rfl, rfl⟩
      go_wp2_with fail
      refine HK.out _ _ (Stand.refl _ _) ?_
      clear HK
      refine mix_loudDk rfl (by kernel_rfl) rfl ?_
      intro K1 hK1
      have HK := Lib.hid hK1
      clear hK1 
      go_wp2_with fail
      refine (C2.out).mono ?_
      rintro x w5 ⟨rfl, rfl⟩
      go_wp2_with fail
      refine HK.out _ _ (Stand.refl _ _) ?_
      clear HK
      iterate 2 (refine mix_calmDk rfl rfl ?_; go_big_quiet_step (fail); refine wpQuiet_nil ?_)
      refine mix_endDk ?_
      have HO1 := Lib.hid (HO.out.below bd)
      have hB1 := hB.trans (bd.mono hsB)
      have hs1 : W.heap.size ≤ wr.drew.heap.size := hB1.size
      clear q0 C1 C2
      obtain ⟨W1, hW1⟩ : ∃ W1, wr.drew = W1 := ⟨_, rfl⟩
      have ce1 : W1.cell? ⟨b, off + i, none⟩ = some (.string s) := by rw [← hW1]; exact ce
      rw [hW1] at HO1 hB1 hs1 ⊢
      clear hW1 ce bd hbr
      obtain ⟨pp, hpp⟩ : ∃ pp, P s = pp := ⟨_, rfl⟩
      rw [hpp] at HPS
      have HPV := Lib.hid hpp
      clear hpp
      go_upto_region 8 with fail
      go_cut [13] from 17 to 92 (fun s13 wx => s13 = .bool pp ∧ wx = W1)
      case first =>
        have hq := HPS.out
        clear HPS ce1
        rcases hkd with rfl | rfl | rfl <;> cases x <;> cases y
        all_goals
          have hq' : _ = pp := hq
          simp [kindF] at hq'
          subst hq'
          clear hq
          go_wp2_with fail
          go_meet
          case rel => exact ⟨rfl, rfl⟩
      case rest =>
      obtain ⟨rfl, rfl⟩ := hcut
      cases o with
      | false =>
        cases pp with
        | false =>
          have HT2 := Lib.hid (HT.out.out hiB HS.out HPV.out)
          go_wp2_with fail
          go_roundw
          case rel => exact ⟨i + 1, false, T, by go_num, rfl, hin, by omega, HT2.out, HO1.out, hB1⟩
          case measure => simp [intOf]; omega
        | true =>
          have HT2 := Lib.hid (HT.out.opens hiB HS.out HPV.out)
          obtain ⟨W2, hW2⟩ : ∃ W2, W2 = wc := ⟨_, rfl⟩
          subst hW2
          have HGN := Lib.hid (fun (w' : World) (G : W2.grownBy w' u7.ownBlock) => Below.grown hB1 G hs1 (fun q hq => (HO1.out.lt q hq).1))
          go_wp2_with (at_builtin; go_must (refine append_s46 W2 (s, e0) _ rfl _ rfl _ _ rfl W.heap.size _ T rfl HO1.out rfl (by omega) hs1 ?_); intro v7 w7 O7 G7 _; have HG7 := Lib.hid (HGN.out w7 G7); have HO7 := Lib.hid O7)
          go_roundw
          case rel => exact ⟨i + 1, true, T ++ [(s, e0)], by go_num, rfl, hin, by rw [List.length_append]; show T.length + 1 ≤ _; omega, HT2.out, HO7.out, HG7.out⟩
          case measure => simp [intOf]; omega
      | true =>
        cases pp with
        | true =>
          have HT2 := Lib.hid (HT.out.stays hiB HS.out HPV.out)
          go_wp2_with fail
          go_roundw
          case rel => exact ⟨i + 1, true, T, by go_num, rfl, hin, by omega, HT2.out, HO1.out, hB1⟩
          case measure => simp [intOf]; omega
        | false =>
          obtain ⟨D, f, rfl, hT2⟩ := HT.out.shuts hiB HS.out HPV.out
          have HT2 := Lib.hid hT2
          clear hT2
          obtain ⟨p, hp⟩ : ∃ p, D.length = p := ⟨_, rfl⟩
          have hl : (D ++ [(f, e0)]).length = p + 1 := by rw [List.length_append, hp]; rfl
          have hl2 : (D ++ [(f, s)]).length = p + 1 := by rw [List.length_append, hp]; rfl
          obtain ⟨A7, c7, rfl, -, -, hg7⟩ := HO1.out.form
          obtain ⟨g, rfl, hg1, hg2⟩ := hg7 (by omega)
          rw [hl] at hTl HO1
          have hOr : wc.ownsRow W.heap.size 45 2 (.slice (some ⟨g, 0, none⟩) (p + 1) c7) (p + 1) ((D ++ [(f, e0)]).flatMap spL) := by
            have h9 := HO1.out
            unfold OwnP at h9
            rw [hl] at h9
            exact h9
          have cl := hOr.cellAt (p * 2 + 1) (by omega)
          rw [(sp_get (D ++ [(f, e0)]) p (by omega)).2, show (D ++ [(f, e0)])[p]'(by omega) = (f, e0) from by rw [List.getElem_append_right (by omega)]; simp] at cl
          have fl := hOr.frozenAt (p * 2 + 1)
          have st := hOr.stored (p * 2 + 1) (.string s)
          rw [show ((D ++ [(f, e0)]).flatMap spL).set (p * 2 + 1) (.string s) = (D ++ [(f, s)]).flatMap spL from by rw [← hp]; exact sp_set2 D f _ _] at st
          have HST := Lib.hid st
          have HL2 := Lib.hid hl2
          have hd1 : ((p + 1 : Nat) : Int) - 1 = (p : Int) := by omega
          rw [hl]
          clear st hOr hp hl hl2
          go_wp2_with fail
          go_roundw
          case rel => exact ⟨i + 1, false, D ++ [(f, s)], by go_num, rfl, hin, by rw [HL2.out]; omega, HT2.out, (by unfold OwnP; rw [HL2.out]; exact HST.out.1), below_set hB1 hg1 _ _⟩
          case measure => simp [intOf]; omega
    · have hTR := HT.out.end_ (by have := HM.out; omega)
      subst hTR
      go_wp2_with fail
      go_ret
      exact ⟨_, rfl, HO.out.base_le hsW, b8.trans (hB.mono hsW)⟩
end Go.Proofs.Ytomefcngaclehaa
