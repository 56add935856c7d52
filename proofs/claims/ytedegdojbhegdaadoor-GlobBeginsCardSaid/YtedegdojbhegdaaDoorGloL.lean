/- Contract of the reference's Match, for a text that is a pattern. Condition: the tables of unicode/utf8 lie as they are laid. -/
import Derived.Test.YtedegdojbhegdaaDoorGloK
import Derived.Test.YtedegdojbhegdaaDoorGloF
namespace Go.Proofs.YtedegdojbhegdaaDoor
open Go.RowKit Go.Sort

/-- A row of the table, as far as it is told. -/
def rwF (P : List Part) (T : List Nat) (i k q : Nat) : Bool := if q < k then Mt P T (i + 1) q else false
theorem rwF_zero (P : List Part) (T : List Nat) (i q : Nat) : rwF P T i 0 q = false := by unfold rwF; rw [if_neg (by omega)]
theorem rwF_step (P : List Part) (T : List Nat) (i k q : Nat) : rwF P T i (k + 1) q = if q = k then Mt P T (i + 1) k else rwF P T i k q := by
  unfold rwF
  by_cases h : q = k
  · subst h
    rw [if_pos (by omega), if_pos rfl]
  · rw [if_neg h]
    by_cases h2 : q < k
    · rw [if_pos h2, if_pos (by omega)]
    · rw [if_neg h2, if_neg (by omega)]
theorem rwF_same {P : List Part} {T : List Nat} {i k : Nat} (h : Mt P T (i + 1) k = false) (q : Nat) : rwF P T i (k + 1) q = rwF P T i k q := by
  rw [rwF_step]
  by_cases hq : q = k
  · subst hq
    rw [if_pos rfl, h]
    unfold rwF
    rw [if_neg (Nat.lt_irrefl _)]
  · rw [if_neg hq]

set_option maxRecDepth 100000 in
set_option maxHeartbeats 4000000 in
theorem ref38_Match (s text : ByteArray) (P : List Part) (hP : patP s = some P) (hs : s.size ≤ 9223372036854775807) (ht : text.size ≤ 1000) (w : World) (hT : Tabs w) :
    Calls Tryd.prog 21 #[.string s, .string text] w fun x w' => x = .returned (.bool (matchP P (rest text 0))) ∧ Below w.heap.size w w' := by
  have HC := Lib.hid (ref38_parts s hs w hT)
  have hPl : P.length ≤ 100 := by
    unfold patP at hP
    split at hP
    · cases hP
    · have := pt_len _ _ (Nat.le_refl _) _ hP
      have := rest_length s 0
      omega
  have HPe := Lib.hid hP
  have hcv := conv_runes text (by omega)
  have hTl := rest_length text 0
  obtain ⟨i0, hi, hz0, hz1, hz2⟩ := info_parts info_bool
  have HZ := Lib.hid (And.intro hi (And.intro hz0 (And.intro hz1 hz2)))
  clear hT hi hz0 hz1 hz2 hP
  obtain ⟨T, hTe⟩ : ∃ T, rest text 0 = T := ⟨_, rfl⟩
  obtain ⟨m, hm⟩ : ∃ m, T.length = m := ⟨_, rfl⟩
  rw [hTe, hm] at hcv
  rw [hTe, hm] at hTl
  rw [hTe]
  have HTE := Lib.hid hTe
  have HM := Lib.hid hm
  obtain ⟨RES, hRES⟩ : ∃ r, matchP P T = r := ⟨_, rfl⟩
  rw [hRES]
  have HRES : Hid (Mt P T P.length m = RES) := Lib.hid (by rw [← hRES, ← hm]; rfl)
  clear hTe hm hRES
  go_enter Tryd.func21, Tryd.ntmps21
  go_wp2_with fail
  refine HC.out.mono ?_
  clear HC
  rintro y w2 ⟨hB0, ⟨hp, rfl⟩ | ⟨A, n, c, L, hp, rfl, hn, hnc, hpr⟩⟩
  · rw [HPe.out] at hp
    cases hp
  rw [HPe.out] at hp
  injection hp with hp
  have HPL := Lib.hid hp
  have HL : Hid (L.length = n) := Lib.hid hn.symm
  have hnP : P.length = n := by rw [hp, List.length_map]; exact HL.out
  have HNP := Lib.hid hnP
  have hn100 : n ≤ 100 := by omega
  have hHn := Lib.hid hnc
  have HPR := Lib.hid hpr
  clear hp hn hnP hpr hnc hPl
  have hBr := rnW_below text w2
  have hrc := rnW_cell text w2
  have hsz := rnW_size text w2
  rw [HTE.out] at hrc
  have hRW : Reads (rnW text w2) (rnW text w2).heap.size 1 (some ⟨w2.heap.size, 0, none⟩) m (T.map rv) := ⟨by rw [List.length_map, HM.out]; omega, fun _ => ⟨_, rfl, by rw [hsz]; exact Nat.lt_succ_self _, fun j u hu => by
    rw [List.getElem?_map] at hu
    cases hr : T[j]? with
    | none => rw [hr] at hu; cases hu
    | some r =>
      rw [hr] at hu
      injection hu with hu
      subst hu
      rw [add_lit, Nat.zero_add]
      exact hrc j r hr⟩⟩
  have hPW : PatR rsL 2 (rnW text w2) (rnW text w2).heap.size A n L := (HPR.out.below hBr).more hBr.size
  have hBW := hB0.trans (hBr.mono hB0.size)
  have HRW := Lib.hid hRW
  have HPW := Lib.hid hPW
  clear hBr hrc hsz hRW hPW hB0
  go_upto_region 3 with fail
  clear hcv
  generalize rnC text w2 = cap at *
  generalize rnW text w2 = W at *
  generalize w2.heap.size = gT at *
  have hbW := hBW.size
  go_upto_region 6 with (at_make; refine wpList_make_full _ rfl _ _ 83 rfl W.heap.size 4 i0 (.bool false) 1 Tryd.underlying83 HZ.out.1 HZ.out.2.1 HZ.out.2.2.1 .i64 .i64 _ _ (m + 1) rfl rfl (by omega) (by omega) (by rw [HZ.out.2.2.2]; omega) (by unfold maxLen; omega) (Nat.le_refl _) ?_; intro w3 O2 G2; have O3 := made_bools O2; have fz := OwnB.frozen_at O3 0; have cz := ob_at O3 0 (by omega))
  have O4 := OwnB.set_at O3 0 true
  rw [bl_set, bl_congr (g := Mt P T 0) (fun i _ => by cases i with | zero => rw [Mt]; rfl | succ i => rw [Mt]; rfl)] at O4
  have hB4 : Below W.heap.size W (w3.setCell ⟨W.heap.size, 0, none⟩ (.bool true)) := below_set (Below.grown (Below.refl _ _) G2 (Nat.le_refl _) (by simp)) (Nat.le_refl _) 0 _
  have O5 := O4.1
  clear O2 O3 O4 G2 fz cz
  generalize w3.setCell ⟨W.heap.size, 0, none⟩ (.bool true) = V0 at *
  go_loopw [8, 9] (fun v8 v9 wr => ∃ (i g : Nat), v9 = .int .i64 i ∧ i ≤ n ∧ v8 = .slice (some ⟨g, 0, none⟩) (m + 1) (m + 1) ∧ OwnB wr W.heap.size (.slice (some ⟨g, 0, none⟩) (m + 1) (m + 1)) (bl_ (m + 1) (Mt P T i)) ∧ Below W.heap.size W wr) (fun _ v9 _ => n - (RowKit.intOf v9).toNat)
  case atStart => exact ⟨0, W.heap.size, rfl, Nat.zero_le _, rfl, O5, hB4⟩
  case round =>
    clear O5 hB4
    obtain ⟨i, g, rfl, hi, rfl, hO, hB⟩ := hrel
    obtain ⟨wo, hwo⟩ : ∃ wo, wo = wr := ⟨_, rfl⟩
    subst hwo
    by_cases hin : i < n
    · obtain ⟨x', hx'⟩ : ∃ x, wo.heap.size = x := ⟨_, rfl⟩
      have hgV : g < wo.heap.size := (World.ownsRow.lt hO g rfl).2
      have hbV := hB.size
      have hkl : i < L.length := by have := HL.out; omega
      go_upto_region 10 with (at_make; refine wpList_make_full _ rfl _ _ 83 rfl W.heap.size 4 i0 (.bool false) 1 Tryd.underlying83 HZ.out.1 HZ.out.2.1 HZ.out.2.2.1 .i64 .i64 _ _ (m + 1) rfl rfl (by omega) (by omega) (by rw [HZ.out.2.2.2]; omega) (by unfold maxLen; omega) hbV ?_; intro v2 O2 G2; have O3 := made_bools O2)
      have hOa : OwnB v2 W.heap.size (.slice (some ⟨g, 0, none⟩) (m + 1) (m + 1)) (bl_ (m + 1) (Mt P T i)) := World.ownsRow.kept hO G2 (.inr (fun e => by cases e))
      have hB3 : Below W.heap.size W v2 := Below.grown hB G2 hB.size (by simp)
      have HOn : Hid (OwnB v2 W.heap.size (.slice (some ⟨wo.heap.size, 0, none⟩) (m + 1) (m + 1)) (bl_ (m + 1) (rwF P T i 0))) := Lib.hid (by rw [bl_congr (g := fun _ => false) (fun q _ => rwF_zero P T i q)]; exact O3)
      clear O2 O3 G2 hO hB
      rw [hx'] at HOn hgV hbV
      have hgx : g ≠ x' := by omega
      clear hx'
      have hrow := rowP_map hkl
      have hone := fun r => oneP_map hkl r
      rw [← HPL.out] at hrow hone
      have hsm := HPW.out.small _ (List.getElem_mem hkl)
      have hhang := HPW.out.hang _ (List.getElem_mem hkl)
      have hcel : ∀ wr, Below W.heap.size W wr → ∃ b off, A = some ⟨b, off, none⟩ ∧ b < W.heap.size ∧ wr.cell? ⟨b, off + i * 2, none⟩ = some (.int .i64 (L[i].p.kind : Int)) ∧ wr.cell? ⟨b, off + i * 2 + 1, none⟩ = some (.slice L[i].A L[i].n L[i].c) := fun wr hB => rsL_at (HPW.out.below hB) hkl
      obtain ⟨e, he⟩ : ∃ e, L[i] = e := ⟨_, rfl⟩
      rw [he] at hrow hsm hhang hcel
      simp only [he] at hone
      have HCEL := Lib.hid hcel
      have HONE := Lib.hid hone
      have HROW := Lib.hid hrow
      have HSM := Lib.hid hsm
      have HHANG := Lib.hid hhang
      clear he hcel hone hrow hsm hhang hkl
      go_loopw [11] (fun v11 wr => ∃ k : Nat, v11 = .int .i64 k ∧ k ≤ m + 1 ∧ OwnB wr W.heap.size (.slice (some ⟨x', 0, none⟩) (m + 1) (m + 1)) (bl_ (m + 1) (rwF P T i k)) ∧ OwnB wr W.heap.size (.slice (some ⟨g, 0, none⟩) (m + 1) (m + 1)) (bl_ (m + 1) (Mt P T i)) ∧ Below W.heap.size W wr) (fun v11 _ => m + 1 - (RowKit.intOf v11).toNat)
      case atStart => exact ⟨0, rfl, Nat.zero_le _, HOn.out, hOa, hB3⟩
      case round =>
        clear hOa hB3 HOn
        obtain ⟨k, rfl, hk, hOn, hOa, hB⟩ := hrel
        by_cases hkm : k < m + 1
        · obtain ⟨b, off, hA, hb, d0, d1⟩ := HCEL.out wr hB
          have hxl : W.heap.size ≤ x' := (World.ownsRow.lt hOn x' rfl).1
          have hxw : x' < wr.heap.size := (World.ownsRow.lt hOn x' rfl).2
          have hgw : g < wr.heap.size := (World.ownsRow.lt hOa g rfl).2
          have hgl : W.heap.size ≤ g := (World.ownsRow.lt hOa g rfl).1
          have fz := OwnB.frozen_at hOn k
          have nk := ob_at hOn k hkm
          have rk := ob_at hOa k hkm
          by_cases h3 : e.p.kind = 3
          · have hr3 : rowP P i = true := by rw [HROW.out, h3]; rfl
            rw [h3] at d0
            obtain ⟨u, hu⟩ : ∃ u, Mt P T i k = u := ⟨_, rfl⟩
            rw [hu] at rk
            by_cases h0 : 0 < k
            · have nk1 := ob_at hOn (k - 1) (by omega)
              have hm1 : rwF P T i k (k - 1) = Mt P T (i + 1) (k - 1) := by unfold rwF; rw [if_pos (by omega)]
              rw [hm1] at nk1
              obtain ⟨u2, hu2⟩ : ∃ u, Mt P T (i + 1) (k - 1) = u := ⟨_, rfl⟩
              rw [hu2] at nk1
              have HV : Hid (Mt P T (i + 1) k = (u || u2)) := Lib.hid (by
                obtain ⟨q, rfl⟩ : ∃ q, k = q + 1 := ⟨k - 1, by omega⟩
                rw [Mt, if_pos hr3, hu, ← hu2]
                rfl)
              clear hu hu2 hm1 h3 hr3
              rw [hA]
              cases u
              case' false => cases u2
              case' false.false =>
                have hO6 := OwnB.set_at hOn k false
                rw [bl_set] at hO6
                have hOa6 : OwnB (wr.setCell ⟨x', k, none⟩ (.bool false)) W.heap.size (.slice (some ⟨g, 0, none⟩) (m + 1) (m + 1)) (bl_ (m + 1) (Mt P T i)) := World.ownsRow.kept hOa (only_set1 wr x' k (.bool false)) (.inr (fun e => hgx (by injection e)))
                have hB6 := below_set hB hxl k (.bool false)
                go_wp2_with fail
                go_roundw
                case rel => exact ⟨k + 1, by go_num, by omega, by rw [bl_congr (g := fun q => if q = k then false else rwF P T i k q) (fun q _ => by rw [rwF_step, HV.out]; try rfl)]; exact hO6.1, hOa6, hB6⟩
                case measure => simp [RowKit.intOf]; omega
              case' false.true =>
                have hO6 := OwnB.set_at hOn k true
                rw [bl_set] at hO6
                have hOa6 : OwnB (wr.setCell ⟨x', k, none⟩ (.bool true)) W.heap.size (.slice (some ⟨g, 0, none⟩) (m + 1) (m + 1)) (bl_ (m + 1) (Mt P T i)) := World.ownsRow.kept hOa (only_set1 wr x' k (.bool true)) (.inr (fun e => hgx (by injection e)))
                have hB6 := below_set hB hxl k (.bool true)
                go_wp2_with fail
                go_roundw
                case rel => exact ⟨k + 1, by go_num, by omega, by rw [bl_congr (g := fun q => if q = k then true else rwF P T i k q) (fun q _ => by rw [rwF_step, HV.out]; try rfl)]; exact hO6.1, hOa6, hB6⟩
                case measure => simp [RowKit.intOf]; omega
              case' true =>
                have hO6 := OwnB.set_at hOn k true
                rw [bl_set] at hO6
                have hOa6 : OwnB (wr.setCell ⟨x', k, none⟩ (.bool true)) W.heap.size (.slice (some ⟨g, 0, none⟩) (m + 1) (m + 1)) (bl_ (m + 1) (Mt P T i)) := World.ownsRow.kept hOa (only_set1 wr x' k (.bool true)) (.inr (fun e => hgx (by injection e)))
                have hB6 := below_set hB hxl k (.bool true)
                go_wp2_with fail
                go_roundw
                case rel => exact ⟨k + 1, by go_num, by omega, by rw [bl_congr (g := fun q => if q = k then true else rwF P T i k q) (fun q _ => by rw [rwF_step, HV.out]; try rfl)]; exact hO6.1, hOa6, hB6⟩
                case measure => simp [RowKit.intOf]; omega
            · have HV : Hid (Mt P T (i + 1) k = u) := Lib.hid (by
                obtain rfl : k = 0 := by omega
                rw [Mt, hr3, hu]
                rfl)
              have h0d : decide (0 < k) = false := by simp; omega
              clear hu h3 hr3
              rw [hA]
              cases u
              case' false =>
                have hO6 := OwnB.set_at hOn k false
                rw [bl_set] at hO6
                have hOa6 : OwnB (wr.setCell ⟨x', k, none⟩ (.bool false)) W.heap.size (.slice (some ⟨g, 0, none⟩) (m + 1) (m + 1)) (bl_ (m + 1) (Mt P T i)) := World.ownsRow.kept hOa (only_set1 wr x' k (.bool false)) (.inr (fun e => hgx (by injection e)))
                have hB6 := below_set hB hxl k (.bool false)
                go_wp2_with fail
                go_roundw
                case rel => exact ⟨k + 1, by go_num, by omega, by rw [bl_congr (g := fun q => if q = k then false else rwF P T i k q) (fun q _ => by rw [rwF_step, HV.out]; try rfl)]; exact hO6.1, hOa6, hB6⟩
                case measure => simp [RowKit.intOf]; omega
              case' true =>
                have hO6 := OwnB.set_at hOn k true
                rw [bl_set] at hO6
                have hOa6 : OwnB (wr.setCell ⟨x', k, none⟩ (.bool true)) W.heap.size (.slice (some ⟨g, 0, none⟩) (m + 1) (m + 1)) (bl_ (m + 1) (Mt P T i)) := World.ownsRow.kept hOa (only_set1 wr x' k (.bool true)) (.inr (fun e => hgx (by injection e)))
                have hB6 := below_set hB hxl k (.bool true)
                go_wp2_with fail
                go_roundw
                case rel => exact ⟨k + 1, by go_num, by omega, by rw [bl_congr (g := fun q => if q = k then true else rwF P T i k q) (fun q _ => by rw [rwF_step, HV.out]; try rfl)]; exact hO6.1, hOa6, hB6⟩
                case measure => simp [RowKit.intOf]; omega
          · have hr3 : rowP P i = false := by rw [HROW.out]; simp [h3]
            have hk3 : ((e.p.kind : Int) == 3) = false := by simp; omega
            by_cases h0 : 0 < k
            · have rk1 := ob_at hOa (k - 1) (by omega)
              have hTk : k - 1 < T.length := by have := HM.out; omega
              obtain ⟨r, hr⟩ : ∃ r, T[k - 1] = r := ⟨_, rfl⟩
              have hrc : wr.cell? ⟨gT, k - 1, none⟩ = some (.int .i32 (r : Int)) := by
                obtain ⟨b', off', hA', hb', hc'⟩ := rune_at (HRW.out.below hB) (by omega)
                injection hA' with hA'
                injection hA' with h1 h2
                subst h1 h2
                have := hc' (k - 1) hTk
                rw [hr, Nat.zero_add] at this
                exact this
              have hgd : T.getD (k - 1) 0 = r := by rw [List.getD_eq_getElem?_getD, List.getElem?_eq_getElem hTk]; exact hr
              have hvv : Mt P T (i + 1) k = (Mt P T i (k - 1) && hasP e.p r) := by
                obtain ⟨q, rfl⟩ : ∃ q, k = q + 1 := ⟨k - 1, by omega⟩
                rw [Nat.add_sub_cancel] at hgd ⊢
                rw [Mt, hr3, hgd, HONE.out]
                rfl
              obtain ⟨u, hu⟩ : ∃ u, Mt P T i (k - 1) = u := ⟨_, rfl⟩
              rw [hu] at rk1 hvv
              have HVV := Lib.hid hvv
              have hHS := Lib.hid (fun w' (hw : Below W.heap.size W w') => ref38_has e r w' ((HHANG.out.below hw).more hw.size) (by have := HSM.out.1; omega) HSM.out.2.1)
              unfold rsC at hHS
              obtain ⟨kI, hkI⟩ : ∃ k : Int, (e.p.kind : Int) = k := ⟨_, rfl⟩
              rw [hkI] at d0 hHS hk3
              generalize e.A = A7 at *
              generalize e.n = n7 at *
              generalize e.c = c7 at *
              have q0 : ∀ p : Kept (fun _ => True) wr.drew, p.v.cell? ⟨g, k - 1, none⟩ = some (.bool u) := fun p => p.h.cell trivial rk1
              have q1 : ∀ p : Kept (fun _ => True) wr.drew, p.v.cell? ⟨b, off + i * 2, none⟩ = some (.int .i64 kI) := fun p => p.h.cell trivial d0
              have q2 : ∀ p : Kept (fun _ => True) wr.drew, p.v.cell? ⟨b, off + i * 2 + 1, none⟩ = some (.slice A7 n7 c7) := fun p => p.h.cell trivial d1
              have q3 : ∀ p : Kept (fun _ => True) wr.drew, p.v.cell? ⟨gT, k - 1, none⟩ = some (.int .i32 (r : Int)) := fun p => p.h.cell trivial hrc
              have fd : ∀ m, (wr.drewN m).frozen? ⟨x', k, none⟩ = false := fun _ => fz
              clear hu hvv hgd hr hr3 h3 hkI rk
              rw [hA]
              cases u
              case' false =>
                have HV : Hid (Mt P T (i + 1) k = false) := Lib.hid (by rw [HVV.out]; rfl)
                clear q0 q1 q2 q3 hA
                go_wp2_with fail
                go_region
                have hO6 := OwnB.set_at hOn k false
                rw [bl_set] at hO6
                have hOa6 : OwnB (wr.setCell ⟨x', k, none⟩ (.bool false)) W.heap.size (.slice (some ⟨g, 0, none⟩) (m + 1) (m + 1)) (bl_ (m + 1) (Mt P T i)) := World.ownsRow.kept hOa (only_set1 wr x' k (.bool false)) (.inr (fun e => hgx (by injection e)))
                have hB6 := below_set hB hxl k (.bool false)
                go_wp2_with fail
                go_roundw
                case rel => exact ⟨k + 1, by go_num, by omega, by rw [bl_congr (g := fun q => if q = k then false else rwF P T i k q) (fun q _ => by rw [rwF_step, HV.out])]; exact hO6.1, hOa6, below_drewN hB6 1⟩
                case measure => simp [RowKit.intOf]; omega
              case' true =>
                clear rk1 hrc
                go_wp2_with fail
                refine wp_region_mixTk (M := []) (fun _ => True) 19 [0, 1, 2, 3, 4, 5, 6, 7, 8, 9, 10, 11, 12, 13, 14, 15, 16, 17, 18] (by kernel_rfl) (by kernel_rfl) ?_
                iterate 17 (refine mix_calmDk rfl rfl ?_; go_big_quiet_step (fail); refine wpQuiet_nil ?_)
                refine mix_loudDk rfl (by kernel_rfl) rfl ?_
                intro K1 hK1
                have HK := Lib.hid hK1
                clear hK1
                go_wp2_with fail
                refine (hHS.out _ (below_drewN hB 1)).mono ?_
                rintro y w5 ⟨rfl, b5⟩
                have HO5 := Lib.hid (OwnB.below (w := wr.drew) hOn b5)
                have HOa5 := Lib.hid (OwnB.below (w := wr.drew) hOa b5)
                have HB5 := Lib.hid ((below_drewN hB 1).trans (b5.mono hB.size))
                have fz5 := OwnB.frozen_at HO5.out k
                have nk5 := ob_at HO5.out k hkm
                have HSt := Lib.hid (Stand.of_below (S := fun _ => True) b5)
                obtain ⟨q, hq⟩ : ∃ q, hasP e.p r = q := ⟨_, rfl⟩
                rw [hq] at HVV ⊢
                have HV : Hid (Mt P T (i + 1) k = q) := Lib.hid (by rw [HVV.out]; rfl)
                clear hq b5 hHS q0 q1 q2 q3 fd fz nk d0 d1 hOn hOa hB
                go_wp2_with fail
                refine HK.out _ _ HSt.out ?_
                clear HK HSt
                iterate 1 (refine mix_calmDk rfl rfl ?_; go_big_quiet_step (fail); refine wpQuiet_nil ?_)
                refine mix_endDk ?_
                have hO6 := OwnB.set_at HO5.out k q
                rw [bl_set] at hO6
                have hOa6 : OwnB (w5.setCell ⟨x', k, none⟩ (.bool q)) W.heap.size (.slice (some ⟨g, 0, none⟩) (m + 1) (m + 1)) (bl_ (m + 1) (Mt P T i)) := World.ownsRow.kept HOa5.out (only_set1 w5 x' k (.bool q)) (.inr (fun e => hgx (by injection e)))
                have hB6 := below_set HB5.out hxl k (.bool q)
                go_wp2_with fail
                go_roundw
                case rel => exact ⟨k + 1, by go_num, by omega, by rw [bl_congr (g := fun z => if z = k then q else rwF P T i k z) (fun z _ => by rw [rwF_step, HV.out])]; exact hO6.1, hOa6, hB6⟩
                case measure => simp [RowKit.intOf]; omega
            · have HV : Hid (Mt P T (i + 1) k = false) := Lib.hid (by
                obtain rfl : k = 0 := by omega
                rw [Mt, hr3]
                rfl)
              have h0d : decide (0 < k) = false := by simp; omega
              clear hr3 h3
              rw [hA]
              go_wp2_with fail
              go_roundw
              case rel => exact ⟨k + 1, by go_num, by omega, by rw [bl_congr (g := rwF P T i k) (fun q _ => rwF_same HV.out q)]; exact hOn, hOa, hB⟩
              case measure => simp [RowKit.intOf]; omega
        · have hke : k = m + 1 := by omega
          subst hke
          have HO : Hid (OwnB wr W.heap.size (.slice (some ⟨x', 0, none⟩) (m + 1) (m + 1)) (bl_ (m + 1) (Mt P T (i + 1)))) := Lib.hid (by
            rw [bl_congr (g := rwF P T i (m + 1)) (fun q hq => by unfold rwF; rw [if_pos hq])]
            exact hOn)
          clear hOn
          go_wp2_with fail
          go_roundw
          case rel => exact ⟨i + 1, x', by go_num, by omega, rfl, HO.out, hB⟩
          case measure => simp [RowKit.intOf]; omega
    · have hie : i = n := by omega
      subst hie
      have e0 := ob_at hO m (by omega)
      have hres := HRES.out
      rw [HNP.out] at hres
      rw [hres] at e0
      clear hres
      go_wp2_with fail
      go_ret
      exact ⟨rfl, hBW.trans (hB.mono hBW.size)⟩
end Go.Proofs.YtedegdojbhegdaaDoor
